/-
  The reference of layer 15: Of. Conditions: a tail of bytes, a top within the document's bounds.
-/
import Derived.Test.YtkcehpnppfmfnaaRefB
import Derived.Deep.RegionLaw
namespace Go.Proofs.Ytkcehpnppfmfnaa
open Go.RowKit

theorem nums_at (t : ByteArray) (k : Nat) (h : k < t.size) (hM : k < (nums t).length) : ((t[k]'h).toNat : Int) = (nums t)[k] := by
  simp only [nums, List.getElem_map]
  rfl

theorem rof_bad (top : Int) (t : ByteArray) (w : World) (h0 : 0 ≤ top) (h1 : top ≤ 18446744073709551615) (_ht : t.size ≤ 1000000) (hd : 4611686018427387904 < top ∨ ((t.size : Nat) : Int) ≠ min (top + 1) 3) :
    Calls Try.prog 13 #[.int .u64 top, .string t] w fun e w' => e = .returned (.tuple #[.agg #[.int .u64 0, .slice none 0 0], .int .i64 2]) ∧ Upd (fun _ => False) w w' := by
  by_cases h2 : top < 2
  · have hq : (((t.size : Nat) : Int) != top + 1) = true := by rw [bne_iff_ne]; omega
    have hq2 : decide ((4611686018427387904 : Int) < top) = false := decide_eq_false (by omega)
    clear hd
    go_enter Try.func13, Try.ntmps13
    go_wp2_with fail
    exact bodyPost_ret (v := .tuple #[.agg #[.int .u64 0, .slice none 0 0], .int .i64 2]) (by simp [results, Try.results13, go_sem]) rfl ⟨rfl, (Upd.refl _ _).alloc _⟩
  · by_cases hb : 4611686018427387904 < top
    · clear hd
      go_enter Try.func13, Try.ntmps13
      go_wp2_with fail
      exact bodyPost_ret (v := .tuple #[.agg #[.int .u64 0, .slice none 0 0], .int .i64 2]) (by simp [results, Try.results13, go_sem]) rfl ⟨rfl, (Upd.refl _ _).alloc _⟩
    · have hq : (((t.size : Nat) : Int) != 3) = true := by rw [bne_iff_ne]; omega
      have hq2 : decide ((4611686018427387904 : Int) < top) = false := decide_eq_false (by omega)
      clear hd
      go_enter Try.func13, Try.ntmps13
      go_wp2_with fail
      exact bodyPost_ret (v := .tuple #[.agg #[.int .u64 0, .slice none 0 0], .int .i64 2]) (by simp [results, Try.results13, go_sem]) rfl ⟨rfl, (Upd.refl _ _).alloc _⟩

def rofPre (w : World) (low : Nat) (M : List Int) (k : Nat) (wr : World) : Prop :=
  Upd (fun _ => False) w wr ∧ (∀ x ∈ M.take k, dirB x = true) ∧ ∃ v, Blk wr w.heap.size 36 #[.int .u64 0, .slice none 0 0] ∧ Blk wr (w.heap.size + 1) 36 #[.int .u64 (low : Int), v] ∧ wr.ownsRow 0 5 1 v k ((M.take k).map (Value.int .u8)) ∧ (∀ g, v.ownBlock = some g → w.heap.size + 2 ≤ g)

set_option maxRecDepth 100000 in
set_option maxHeartbeats 4000000 in
theorem rof_walk (top : Int) (t : ByteArray) (w : World) (low : Nat) (h0 : 0 ≤ top) (h1 : top ≤ 4611686018427387904) (hd : ((t.size : Nat) : Int) = min (top + 1) 3) (hlow : (low : Int) = top + 1 - ((t.size : Nat) : Int)) :
    Calls Try.prog 13 #[.int .u64 top, .string t] w fun e w' =>
      (dirsB (nums t) = false ∧ e = .returned (.tuple #[.agg #[.int .u64 0, .slice none 0 0], .int .i64 2]) ∧ Upd (fun _ => False) w w') ∨
      (dirsB (nums t) = true ∧ ∃ v, e = .returned (.tuple #[v, .int .i64 0]) ∧ RNew w v low (nums t) w') := by
  obtain ⟨i0, hi0, hz0, hz1, hz2⟩ := info_parts infoU8
  have hM := nums_length t
  have hMb := nums_bd t
  have HAT := Lib.hid (nums_at t)
  have HM := Lib.hid hM
  have hq2 : decide ((4611686018427387904 : Int) < top) = false := decide_eq_false (by omega)
  have hn : (t.size : Int) ≤ 3 := by omega
  generalize hN : nums t = M at *
  have HNM := Lib.hid hN
  have HMb := Lib.hid hMb
  clear hN hM hMb
  by_cases h2 : top < 2
  · have hq : (((t.size : Nat) : Int) != top + 1) = false := by rw [bne_eq_false_iff_eq]; omega
    obtain rfl : low = 0 := by omega
    clear hd hlow
    go_enter Try.func13, Try.ntmps13
    go_wp2_with fail
    go_loopw [8] (fun i wr => ∃ k : Nat, k ≤ t.size ∧ i = .int .i64 k ∧ rofPre w 0 M k wr) (fun i _ => t.size - (intOf i).toNat)
    case atStart => exact ⟨0, Nat.zero_le _, rfl, ((Upd.refl _ w).alloc _).alloc _, by simp, _, (Blk.new _ _ _).alloc _, Blk.newAt _ _ _ (by simp), World.ownsRow_nil _ _ _ _, fun g hg => by simp [Value.ownBlock] at hg⟩
    case round =>
      obtain ⟨k, hk, rfl, hu, hall, v, hb0, hb, ho, hv⟩ := hrel
      obtain ⟨A, cv, rfl, _, hcv⟩ := own_shape ho
      have hsz : w.heap.size + 2 ≤ wr.heap.size := hb.lt
      have d1 : wr.cell? ⟨w.heap.size + 1, 1, none⟩ = some (.slice A k cv) := hb.cell 1
      have d0 : wr.cell? ⟨w.heap.size + 1, 0, none⟩ = some (.int .u64 0) := hb.cell 0
      by_cases hlt : k < t.size
      · have hkM : k < M.length := by rw [HM.out]; exact hlt
        have hne : Value.ownBlock (.slice A k cv) ≠ some (w.heap.size + 1) := own_blk_ne ho hb (by decide)
        have hx := fun h => HAT.out k h hkM
        have hxb := HMb.out M[k] (List.getElem_mem hkM)
        have e5 : (k : Int) < (t.size : Int) := by omega
        have HD := Lib.hid (fun wx => rdir_any M[k] wx)
        have HN := Lib.hid hne
        have HA := Lib.hid hall
        have HU2 := Lib.hid hu
        have HB0 := Lib.hid hb0
        have HB := Lib.hid hb
        have HO := Lib.hid ho
        have HV := Lib.hid hv
        have f40 : wr.cell? ⟨w.heap.size, 0, none⟩ = some (.int .u64 0) := hb0.cell 0
        have f41 : wr.cell? ⟨w.heap.size, 1, none⟩ = some (.slice none 0 0) := hb0.cell 1
        have f42 : wr.frozen? ⟨w.heap.size, 0, none⟩ = false := hb0.frozen 0
        have f43 : wr.frozen? ⟨w.heap.size, 1, none⟩ = false := hb0.frozen 1
        clear hne hall hu hb0 hb ho hv
        by_cases hdx : dirB M[k] = true
        · have HY := Lib.hid (take_snoc_all hkM hdx HA.out)
          have HTS := Lib.hid (take_snoc_map .u8 M k hkM)
          rw [hdx] at HD
          clear hdx
          generalize M[k] = x at *
          clear f40 f41 f42 f43
          have d1a : (wr.alloc (.cells #[.int .u8 x] 5)).cell? ⟨w.heap.size + 1, 1, none⟩ = some (.slice A k cv) := (HB.out.alloc _).cell 1
          have HBd : Hid (Blk (wr.alloc (.cells #[.int .u8 x] 5)).drew (w.heap.size + 1) 36 #[.int .u64 0, .slice A k cv]) := HB.out.alloc _
          have HBd0 : Hid (Blk (wr.alloc (.cells #[.int .u8 x] 5)).drew w.heap.size 36 #[.int .u64 0, .slice none 0 0]) := HB0.out.alloc _
          have HU2d : Hid (Upd (fun _ => False) w (wr.alloc (.cells #[.int .u8 x] 5)).drew) := (HU2.out.alloc _).drew
          go_wp2_with fail
          refine (HD.out _).mono ?_
          rintro e w' ⟨rfl, rfl⟩
          go_wp2_with fail
          go_region_law (first
            | (refine step_append_sl _ (by rfl) (.tmp 42) (.tmp 46) _ (by rfl) 5 i0 (.int .u8 0) 1 1 Try.underlying22 hi0 hz0 hz1 hz2 rfl (by omega) (.slice A k cv) k ((M.take k).map (Value.int .u8)) (by rfl) (by first | exact HO.out.alloc _) _ _ 1 [.int .u8 x] (by rfl) (Sl.one _ _ _) (by simp [Value.oneCell']) (by simp only [maxLen]; omega) (by omega) ?_
               intro v1 w1 hown1 hg1 hat1
               obtain ⟨A1, c1, rfl, hn1, hc1⟩ := own_shape hown1
               have k0 : w1.cell? ⟨w.heap.size + 1, 1, none⟩ = some (.slice A k cv) := (HBd.out.grown hg1 (fun e => HN.out e.symm)).cell 1
               have k1 : w1.frozen? ⟨w.heap.size + 1, 1, none⟩ = false := (HBd.out.grown hg1 (fun e => HN.out e.symm)).frozen 1))
          all_goals
            go_wp2_with fail
            go_roundw
            case rel =>
              have hb1 := HBd.out.grown hg1 (fun e => HN.out e.symm)
              have hb2 := HBd0.out.grown hg1 (fun e => by have := HV.out _ e.symm; omega)
              refine ⟨k + 1, by omega, by go_num, (HU2d.out.grown hg1 (fun q hq => .inr (by have := HV.out q hq; omega))).setCell (.inr (Nat.le_succ _)) _, HY.out, .slice A1 (k + 1) c1, hb2.far (by simp) _, hb1.set_ 1 _, ?_, ?_⟩
              · rw [HTS.out]
                exact ownsRow_setCell_other (a := ⟨w.heap.size + 1, 1, none⟩) hown1 (own_blk_ne hown1 hb1 (by decide)) _
              · intro q hq
                rcases hat1 with h | h
                · rw [h] at hq; exact HV.out q hq
                · rw [h] at hq
                  simp at hq
                  omega
            case measure => simp [intOf]; omega
        · have hdx' : dirB M[k] = false := by simpa using hdx
          have HY := Lib.hid (dirsB_no hkM hdx')
          rw [hdx'] at HD
          clear hdx hdx'
          generalize M[k] = x at *
          go_wp2_with fail
          refine (HD.out _).mono ?_
          rintro e w' ⟨rfl, rfl⟩
          go_wp2_with fail
          have hB := (HB0.out.set_ 0 (.int .u64 0)).set_ 1 (.slice none 0 0)
          have q0 := hB.cell 0
          have q1 := hB.cell 1
          simp at q0 q1
          exact bodyPost_ret (v := .tuple #[.agg #[.int .u64 0, .slice none 0 0], .int .i64 2]) (by simp [results, Try.results13, go_sem, q0, q1]) rfl (.inl ⟨HY.out, rfl, (HU2.out.setCell (.inr (Nat.le_refl _)) _).setCell (.inr (Nat.le_refl _)) _⟩)
      · have hkm : k = t.size := by omega
        subst hkm
        rw [List.take_of_length_le (by rw [HM.out]; exact Nat.le_refl _)] at hall ho
        have HA := Lib.hid (dirsB_yes hall)
        have f42 : wr.frozen? ⟨w.heap.size, 0, none⟩ = false := hb0.frozen 0
        have f43 : wr.frozen? ⟨w.heap.size, 1, none⟩ = false := hb0.frozen 1
        have f40 : wr.cell? ⟨w.heap.size, 0, none⟩ = some (.int .u64 0) := hb0.cell 0
        have f41 : wr.cell? ⟨w.heap.size, 1, none⟩ = some (.slice none 0 0) := hb0.cell 1
        have HU2 := Lib.hid hu
        have HB0 := Lib.hid hb0
        have HO := Lib.hid ho
        have HV := Lib.hid hv
        clear hall hu hb0 hb ho hv
        go_wp2_with fail
        have hB := (HB0.out.set_ 0 (.int .u64 0)).set_ 1 (.slice A t.size cv)
        have q0 := hB.cell 0
        have q1 := hB.cell 1
        simp at q0 q1
        refine bodyPost_ret (v := .tuple #[.agg #[.int .u64 0, .slice A t.size cv], .int .i64 0]) (by simp [results, Try.results13, go_sem, q0, q1]) rfl (.inr ⟨HA.out, _, rfl, (HU2.out.setCell (.inr (Nat.le_refl _)) _).setCell (.inr (Nat.le_refl _)) _, A, cv, by rw [HM.out]; rfl, ?_⟩)
        have hs3 := (Sl.own HO.out).more (G := fun k => w.heap.size + 2 ≤ k ∧ k < wr.heap.size) (fun k hk => ⟨HV.out k hk, (HO.out.lt k hk).2⟩)
        rw [HM.out]
        refine ((hs3.upd (G := fun k => k = w.heap.size) (Upd.setCell (F := fun k => k = w.heap.size) (Upd.setCell (F := fun k => k = w.heap.size) (Upd.refl _ _) (p := ⟨w.heap.size, 0, none⟩) (.inl rfl) _) (p := ⟨w.heap.size, 1, none⟩) (.inl rfl) _) (fun k hk h => by omega)).more (fun k hk => ⟨by omega, ?_⟩))
        simpa [World.setCell] using hk.2
  · have hq : (((t.size : Nat) : Int) != 3) = false := by rw [bne_eq_false_iff_eq]; omega
    have hlow' : top + 1 - 3 = (low : Int) := by omega
    clear hd hlow
    go_enter Try.func13, Try.ntmps13
    go_wp2_with fail
    go_loopw [8] (fun i wr => ∃ k : Nat, k ≤ t.size ∧ i = .int .i64 k ∧ rofPre w low M k wr) (fun i _ => t.size - (intOf i).toNat)
    case atStart => exact ⟨0, Nat.zero_le _, rfl, ((Upd.refl _ w).alloc _).alloc _, by simp, _, (Blk.new _ _ _).alloc _, Blk.newAt _ _ _ (by simp), World.ownsRow_nil _ _ _ _, fun g hg => by simp [Value.ownBlock] at hg⟩
    case round =>
      obtain ⟨k, hk, rfl, hu, hall, v, hb0, hb, ho, hv⟩ := hrel
      obtain ⟨A, cv, rfl, _, hcv⟩ := own_shape ho
      have hsz : w.heap.size + 2 ≤ wr.heap.size := hb.lt
      have d1 : wr.cell? ⟨w.heap.size + 1, 1, none⟩ = some (.slice A k cv) := hb.cell 1
      have d0 : wr.cell? ⟨w.heap.size + 1, 0, none⟩ = some (.int .u64 (low : Int)) := hb.cell 0
      by_cases hlt : k < t.size
      · have hkM : k < M.length := by rw [HM.out]; exact hlt
        have hne : Value.ownBlock (.slice A k cv) ≠ some (w.heap.size + 1) := own_blk_ne ho hb (by decide)
        have hx := fun h => HAT.out k h hkM
        have hxb := HMb.out M[k] (List.getElem_mem hkM)
        have e5 : (k : Int) < (t.size : Int) := by omega
        have HD := Lib.hid (fun wx => rdir_any M[k] wx)
        have HN := Lib.hid hne
        have HA := Lib.hid hall
        have HU2 := Lib.hid hu
        have HB0 := Lib.hid hb0
        have HB := Lib.hid hb
        have HO := Lib.hid ho
        have HV := Lib.hid hv
        have f40 : wr.cell? ⟨w.heap.size, 0, none⟩ = some (.int .u64 0) := hb0.cell 0
        have f41 : wr.cell? ⟨w.heap.size, 1, none⟩ = some (.slice none 0 0) := hb0.cell 1
        have f42 : wr.frozen? ⟨w.heap.size, 0, none⟩ = false := hb0.frozen 0
        have f43 : wr.frozen? ⟨w.heap.size, 1, none⟩ = false := hb0.frozen 1
        clear hne hall hu hb0 hb ho hv
        by_cases hdx : dirB M[k] = true
        · have HY := Lib.hid (take_snoc_all hkM hdx HA.out)
          have HTS := Lib.hid (take_snoc_map .u8 M k hkM)
          rw [hdx] at HD
          clear hdx
          generalize M[k] = x at *
          clear f40 f41 f42 f43
          have d1a : (wr.alloc (.cells #[.int .u8 x] 5)).cell? ⟨w.heap.size + 1, 1, none⟩ = some (.slice A k cv) := (HB.out.alloc _).cell 1
          have HBd : Hid (Blk (wr.alloc (.cells #[.int .u8 x] 5)).drew (w.heap.size + 1) 36 #[.int .u64 (low : Int), .slice A k cv]) := HB.out.alloc _
          have HBd0 : Hid (Blk (wr.alloc (.cells #[.int .u8 x] 5)).drew w.heap.size 36 #[.int .u64 0, .slice none 0 0]) := HB0.out.alloc _
          have HU2d : Hid (Upd (fun _ => False) w (wr.alloc (.cells #[.int .u8 x] 5)).drew) := (HU2.out.alloc _).drew
          go_wp2_with fail
          refine (HD.out _).mono ?_
          rintro e w' ⟨rfl, rfl⟩
          go_wp2_with fail
          go_region_law (first
            | (refine step_append_sl _ (by rfl) (.tmp 42) (.tmp 46) _ (by rfl) 5 i0 (.int .u8 0) 1 1 Try.underlying22 hi0 hz0 hz1 hz2 rfl (by omega) (.slice A k cv) k ((M.take k).map (Value.int .u8)) (by rfl) (by first | exact HO.out.alloc _) _ _ 1 [.int .u8 x] (by rfl) (Sl.one _ _ _) (by simp [Value.oneCell']) (by simp only [maxLen]; omega) (by omega) ?_
               intro v1 w1 hown1 hg1 hat1
               obtain ⟨A1, c1, rfl, hn1, hc1⟩ := own_shape hown1
               have k0 : w1.cell? ⟨w.heap.size + 1, 1, none⟩ = some (.slice A k cv) := (HBd.out.grown hg1 (fun e => HN.out e.symm)).cell 1
               have k1 : w1.frozen? ⟨w.heap.size + 1, 1, none⟩ = false := (HBd.out.grown hg1 (fun e => HN.out e.symm)).frozen 1))
          all_goals
            go_wp2_with fail
            go_roundw
            case rel =>
              have hb1 := HBd.out.grown hg1 (fun e => HN.out e.symm)
              have hb2 := HBd0.out.grown hg1 (fun e => by have := HV.out _ e.symm; omega)
              refine ⟨k + 1, by omega, by go_num, (HU2d.out.grown hg1 (fun q hq => .inr (by have := HV.out q hq; omega))).setCell (.inr (Nat.le_succ _)) _, HY.out, .slice A1 (k + 1) c1, hb2.far (by simp) _, hb1.set_ 1 _, ?_, ?_⟩
              · rw [HTS.out]
                exact ownsRow_setCell_other (a := ⟨w.heap.size + 1, 1, none⟩) hown1 (own_blk_ne hown1 hb1 (by decide)) _
              · intro q hq
                rcases hat1 with h | h
                · rw [h] at hq; exact HV.out q hq
                · rw [h] at hq
                  simp at hq
                  omega
            case measure => simp [intOf]; omega
        · have hdx' : dirB M[k] = false := by simpa using hdx
          have HY := Lib.hid (dirsB_no hkM hdx')
          rw [hdx'] at HD
          clear hdx hdx'
          generalize M[k] = x at *
          go_wp2_with fail
          refine (HD.out _).mono ?_
          rintro e w' ⟨rfl, rfl⟩
          go_wp2_with fail
          have hB := (HB0.out.set_ 0 (.int .u64 0)).set_ 1 (.slice none 0 0)
          have q0 := hB.cell 0
          have q1 := hB.cell 1
          simp at q0 q1
          exact bodyPost_ret (v := .tuple #[.agg #[.int .u64 0, .slice none 0 0], .int .i64 2]) (by simp [results, Try.results13, go_sem, q0, q1]) rfl (.inl ⟨HY.out, rfl, (HU2.out.setCell (.inr (Nat.le_refl _)) _).setCell (.inr (Nat.le_refl _)) _⟩)
      · have hkm : k = t.size := by omega
        subst hkm
        rw [List.take_of_length_le (by rw [HM.out]; exact Nat.le_refl _)] at hall ho
        have HA := Lib.hid (dirsB_yes hall)
        have f42 : wr.frozen? ⟨w.heap.size, 0, none⟩ = false := hb0.frozen 0
        have f43 : wr.frozen? ⟨w.heap.size, 1, none⟩ = false := hb0.frozen 1
        have f40 : wr.cell? ⟨w.heap.size, 0, none⟩ = some (.int .u64 0) := hb0.cell 0
        have f41 : wr.cell? ⟨w.heap.size, 1, none⟩ = some (.slice none 0 0) := hb0.cell 1
        have HU2 := Lib.hid hu
        have HB0 := Lib.hid hb0
        have HO := Lib.hid ho
        have HV := Lib.hid hv
        clear hall hu hb0 hb ho hv
        go_wp2_with fail
        have hB := (HB0.out.set_ 0 (.int .u64 (low : Int))).set_ 1 (.slice A t.size cv)
        have q0 := hB.cell 0
        have q1 := hB.cell 1
        simp at q0 q1
        refine bodyPost_ret (v := .tuple #[.agg #[.int .u64 (low : Int), .slice A t.size cv], .int .i64 0]) (by simp [results, Try.results13, go_sem, q0, q1]) rfl (.inr ⟨HA.out, _, rfl, (HU2.out.setCell (.inr (Nat.le_refl _)) _).setCell (.inr (Nat.le_refl _)) _, A, cv, by rw [HM.out], ?_⟩)
        have hs3 := (Sl.own HO.out).more (G := fun k => w.heap.size + 2 ≤ k ∧ k < wr.heap.size) (fun k hk => ⟨HV.out k hk, (HO.out.lt k hk).2⟩)
        rw [HM.out]
        refine ((hs3.upd (G := fun k => k = w.heap.size) (Upd.setCell (F := fun k => k = w.heap.size) (Upd.setCell (F := fun k => k = w.heap.size) (Upd.refl _ _) (p := ⟨w.heap.size, 0, none⟩) (.inl rfl) _) (p := ⟨w.heap.size, 1, none⟩) (.inl rfl) _) (fun k hk h => by omega)).more (fun k hk => ⟨by omega, ?_⟩))
        simpa [World.setCell] using hk.2
end Go.Proofs.Ytkcehpnppfmfnaa
