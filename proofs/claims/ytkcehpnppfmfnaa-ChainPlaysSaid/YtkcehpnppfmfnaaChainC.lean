/-
  Package chain: Tail and Of: a chain's tail as bytes, and a chain of it. Conditions: the chain's numbers lie within the document's bounds.
-/
import Derived.Test.YtkcehpnppfmfnaaChainB
namespace Go.Proofs.Ytkcehpnppfmfnaa
open Go.RowKit

theorem infoU8 : (Try.prog.info? 5).map (fun i => (i.zero, i.size, i.bytes)) = some (some (.int .u8 0), 1, 1) := by kernel_rfl

theorem tail_nil (w : World) : Calls Try.prog 20 #[.pointer none] w fun e w' => e = .returned (.string ByteArray.empty) ∧ w = w' := by
  go_enter Try.func20, Try.ntmps20
  go_wp2_with fail
  go_ret
  exact ⟨rfl, rfl⟩

/-- The loop of Tail, from a slice on that reads as M. -/
def tailPre (w : World) (M : List Int) (v : Value) (k : Nat) (wr : World) : Prop :=
  wr.ownsRow 0 5 1 v k ((M.take k).map (Value.int .u8)) ∧ Upd (fun _ => False) w wr ∧ (∀ g, v.ownBlock = some g → w.heap.size ≤ g)

theorem take_snoc_map (k : IntKind) (M : List Int) (j : Nat) (h : j < M.length) : (M.take (j + 1)).map (Value.int k) = (M.take j).map (Value.int k) ++ [.int k M[j]] := by
  rw [List.take_succ_eq_append_getElem h, List.map_append]; rfl

set_option maxHeartbeats 2000000 in
theorem tail_any {w : World} {F : Nat → Prop} {p : Value} {low : Nat} {L : List Int} (h : Chn w F p low L) (hok : ChnOk low L) (hl : L.length ≤ 1000000) :
    Calls Try.prog 20 #[p] w fun e w' => e = .returned (.string (strOfNums (L.drop (L.length - 3)))) ∧ Upd (fun _ => False) w w' := by
  obtain ⟨b, v, rfl, hF, hb, ho, hv⟩ := h
  obtain ⟨k0, k1, k2⟩ := hok
  obtain ⟨g, c, rfl, hn, hc, _⟩ := own_cell ho k0
  obtain ⟨i0, hi0, hz0, hz1, hz2⟩ := info_parts infoU8
  have c1 : w.cell? ⟨b, 1, none⟩ = some (.slice (some ⟨g, 0, none⟩) L.length c) := hb.cell 1
  have hgl := (ho.lt g (by simp [Value.ownBlock])).2
  obtain ⟨d, hd⟩ : ∃ d, d = L.length - 3 := ⟨_, rfl⟩
  rw [← hd]
  have hcell : ∀ j, j < (L.drop d).length → w.cell? ⟨g, d + j, none⟩ = some (.int .u8 ((L.drop d).getD j 0)) := by
    intro j hj
    rw [List.length_drop] at hj
    rw [ho.cellAt (d + j) (by omega), List.getElem?_map, List.getElem?_eq_getElem (by omega)]
    simp [List.getElem?_eq_getElem (show d + j < L.length by omega)]
  have hM : (L.drop d).length = L.length - d := List.length_drop
  generalize L.drop d = M at *
  have e1 : max (0 : Int) ((L.length : Int) - 3) = (d : Int) := by omega
  have e2 : (d : Int) < (c : Int) := by omega
  have e3 : (d : Int) < (L.length : Int) := by omega
  unfold maxLen at hc
  clear hb ho hv k2 hd
  generalize L.length = n at *
  obtain ⟨m, hm⟩ : ∃ m, m = n - d := ⟨_, rfl⟩
  rw [← hm] at hM
  have e4 : (m : Int) ≤ 1000000 := by omega
  have HM := Lib.hid hM
  have hm' : n - d = m := hm.symm
  clear hM hm
  go_enter Try.func20, Try.ntmps20
  go_wp2_with fail
  go_quiet (fail)
  go_wp2_with fail
  clear e1
  go_loopw [3, 21] (fun v i wr => ∃ k : Nat, k ≤ m ∧ i = .int .i64 k ∧ tailPre w M v k wr) (fun _ i _ => m - (intOf i).toNat)
  case atStart => exact ⟨0, Nat.zero_le _, rfl, World.ownsRow_nil _ _ _ _, (Upd.refl _ _).drewN _, fun g hg => by simp [Value.ownBlock] at hg⟩
  case round =>
    obtain ⟨k, hk, rfl, hp⟩ := hrel
    obtain ⟨hown, hu, hnew⟩ := hp
    obtain ⟨A, cv, rfl, _, _⟩ := own_shape hown
    by_cases hlt : k < m
    · have hkM : k < M.length := by rw [HM.out]; exact hlt
      have hc : wr.cell? ⟨g, d + k, none⟩ = some (.int .u8 (M.getD k 0)) := (hu.cell (p := ⟨g, d + k, none⟩) hgl id).trans (hcell k hkM)
      have hx : M.getD k 0 = M[k] := by simp [List.getD, List.getElem?_eq_getElem hkM]
      rw [hx] at hc
      have hts := take_snoc_map .u8 M k hkM
      generalize M[k] = x at *
      have HTS := Lib.hid hts
      have HC := Lib.hid hcell
      have HO := Lib.hid hown
      have HU := Lib.hid hu
      have HN := Lib.hid hnew
      clear hts hcell hown hu hnew hx hkM
      have e5 : (k : Int) < (m : Int) := by omega
      go_wp2_with (first
        | (at_builtin
           go_must (refine wpList_append_sl _ rfl (.tmp 25) (.tmp 27) _ rfl 5 i0 (.int .u8 0) 1 1 Try.underlying22 hi0 hz0 hz1 hz2 rfl (by omega) (.slice A k cv) k ((M.take k).map (Value.int .u8)) rfl (HO.out.alloc _) _ _ 1 [.int .u8 x] rfl (Sl.one _ _ _) (by simp [Value.oneCell']) (by simp only [maxLen]; omega) (by omega) ?_)
           intro v1 w1 hown1 hg1 hat1))
      go_roundw
      case rel =>
        refine ⟨k + 1, by omega, by go_num, ?_, ?_, ?_⟩
        · rw [HTS.out]; exact hown1
        · exact (HU.out.alloc _).grown hg1 (fun q hq => .inr (HN.out q hq))
        · intro q hq
          rcases hat1 with h | h
          · rw [h] at hq; exact HN.out q hq
          · rw [h] at hq
            have := HU.out.size
            simp at hq
            omega
      case measure => simp [intOf]; omega
    · have hkm : k = m := by omega
      subst hkm
      have hcv := run_string_of_sl (P := Try.prog) 22 9 5 Try.underlying22 Try.underlying5 Try.underlying9 (Sl.own hown)
      rw [List.take_of_length_le (by rw [HM.out]; exact Nat.le_refl _)] at hcv
      have HU := Lib.hid hu
      clear hu hown hnew hcell hk
      go_wp2
      go_ret
      exact ⟨rfl, HU.out⟩

theorem of_bad (top : Int) (t : ByteArray) (w : World) (h0 : 0 ≤ top) (h1 : top ≤ 18446744073709551615) (ht : t.size ≤ 1000000) (hd : 4611686018427387904 < top ∨ ((t.size : Nat) : Int) ≠ min (top + 1) 3) :
    Calls Try.prog 12 #[.int .u64 top, .string t] w fun e w' => e = .returned (.tuple #[.pointer none, .int .i64 2]) ∧ w = w' := by
  by_cases hb : 4611686018427387904 < top
  · go_enter Try.func12, Try.ntmps12
    go_wp2_with fail
    go_ret2
    exact ⟨rfl, rfl⟩
  · have hs : ((t.size : Nat) : Int) ≠ min (top + 1) 3 := by omega
    have hq : (((t.size : Nat) : Int) != min (top + 1) 3) = true := by rw [bne_iff_ne]; exact hs
    have hb1 : ((t.size : Nat) : Int) ≤ 1000000 := by omega
    clear hs hd
    go_enter Try.func12, Try.ntmps12
    go_wp2_with fail
    go_ret2
    exact ⟨rfl, rfl⟩

/-- Of's loop: k bytes have been taken. -/
def ofPre (w : World) (low : Nat) (M : List Int) (vb : Value) (k : Nat) (wr : World) : Prop :=
  Upd (fun _ => False) w wr ∧ Sl wr (fun g => g = w.heap.size + 1) 1 vb M.length (M.map (Value.int .u8)) ∧ (∀ x ∈ M.take k, dirB x = true) ∧ ∃ v, Blk wr w.heap.size 58 #[.int .u64 (low : Int), v] ∧ wr.ownsRow 0 27 1 v k ((M.take k).map (Value.int .u8)) ∧ (∀ g, v.ownBlock = some g → w.heap.size + 2 ≤ g)

def dirsB (M : List Int) : Bool := M.all dirB
theorem dirsB_no {M : List Int} {k : Nat} (h : k < M.length) (hd : dirB M[k] = false) : dirsB M = false := by
  unfold dirsB
  rw [List.all_eq_false]
  exact ⟨M[k], List.getElem_mem h, by rw [hd]; simp⟩
theorem dirsB_yes {M : List Int} (h : ∀ x ∈ M, dirB x = true) : dirsB M = true := List.all_eq_true.2 h
theorem take_snoc_all {M : List Int} {k : Nat} (h : k < M.length) (hd : dirB M[k] = true) (ha : ∀ x ∈ M.take k, dirB x = true) : ∀ x ∈ M.take (k + 1), dirB x = true := by
  intro x hx
  rw [List.take_succ_eq_append_getElem h, List.mem_append] at hx
  rcases hx with hx | hx
  · exact ha x hx
  · simp at hx; rw [hx]; exact hd

set_option maxHeartbeats 2000000 in
theorem of_walk (top : Int) (t : ByteArray) (w : World) (low : Nat) (h0 : 0 ≤ top) (h1 : top ≤ 4611686018427387904) (hd : ((t.size : Nat) : Int) = min (top + 1) 3) (hlow : (low : Int) = top + 1 - ((t.size : Nat) : Int)) :
    Calls Try.prog 12 #[.int .u64 top, .string t] w fun e w' =>
      (dirsB (nums t) = false ∧ e = .returned (.tuple #[.pointer none, .int .i64 2]) ∧ Upd (fun _ => False) w w') ∨
      (dirsB (nums t) = true ∧ ∃ p, e = .returned (.tuple #[p, .int .i64 0]) ∧ ChnNew w p low (nums t) w') := by
  obtain ⟨i0, hi0, hz0, hz1, hz2⟩ := info_parts infoSet
  have hq : (((t.size : Nat) : Int) != min (top + 1) 3) = false := by rw [bne_eq_false_iff_eq]; exact hd
  have hn : (t.size : Int) ≤ 3 := by omega
  have hq2 : decide ((4611686018427387904 : Int) < top) = false := decide_eq_false (by omega)
  obtain ⟨vb, wb, hcv, hub, hsb⟩ := run_bytes_sl (P := Try.prog) (w.alloc (.cells #[.int .u64 (low : Int), .slice none 0 0] 58)) 9 22 5 t Try.underlying9 Try.underlying22 Try.underlying5 (by omega)
  obtain ⟨_, Ab, cb, rfl, _, _, _, hxb⟩ := id hsb
  have hM := nums_length t
  have hMb := nums_bd t
  have hlow' : top + 1 - ((t.size : Nat) : Int) = (low : Int) := hlow.symm
  have HQ := Lib.hid hsb
  have HU := Lib.hid hub
  have HX := Lib.hid hxb
  have HM := Lib.hid hM
  clear hsb hub hxb hM hd hlow
  go_enter Try.func12, Try.ntmps12
  go_wp2_with fail
  clear hq
  generalize hN : nums t = M at *
  have HNM := Lib.hid hN
  clear hN
  go_loopw [31] (fun i wr => ∃ k : Nat, k ≤ t.size ∧ i = .int .i64 k ∧ ofPre w low M (.slice Ab t.size cb) k wr) (fun i _ => t.size - (intOf i).toNat)
  case atStart =>
    refine ⟨0, Nat.zero_le _, rfl, ((Upd.refl _ w).alloc _).trans HU.out (fun _ _ h => h), ?_, by simp, _, (Blk.new _ _ _).upd HU.out id, World.ownsRow_nil _ _ _ _, fun g hg => by simp [Value.ownBlock] at hg⟩
    rw [HM.out]
    exact HQ.out.more (fun k hk => by simpa using hk)
  case round =>
    obtain ⟨k, hk, rfl, hp⟩ := hrel
    obtain ⟨hu, hs, hall, v, hb, ho, hv⟩ := hp
    obtain ⟨A, cv, rfl, _, hcv⟩ := own_shape ho
    by_cases hlt : k < t.size
    · have hkM : k < M.length := by rw [HM.out]; exact hlt
      obtain ⟨hxl, A', c', e, hcl, hcm, _, hxc⟩ := hs
      simp only [Value.slice.injEq] at e
      obtain ⟨rfl, hzz, rfl⟩ := e
      clear hzz
      obtain ⟨bb, oo, rfl, hFb, hbl, hcell⟩ := hxc (by omega)
      obtain rfl : bb = w.heap.size + 1 := hFb
      have hc := hcell k (.int .u8 M[k]) (by rw [List.getElem?_map, List.getElem?_eq_getElem hkM]; rfl)
      have hxb := hMb M[k] (List.getElem_mem hkM)
      have HS : Hid (Sl wr (fun g => g = w.heap.size + 1) 1 (.slice (some ⟨w.heap.size + 1, oo, none⟩) t.size cb) M.length (M.map (Value.int .u8))) := ⟨hxl, _, _, by rw [HM.out], by rw [HM.out]; omega, hcm, (fun h => by cases h), fun _ => ⟨_, oo, rfl, rfl, hbl, hcell⟩⟩
      have hD := dir_any M[k] wr hxb.1 hxb.2
      have hne : Value.ownBlock (.slice A k cv) ≠ some w.heap.size := own_blk_ne ho hb (by decide)
      have HN := Lib.hid hne
      have HXC := Lib.hid hcell
      have HA := Lib.hid hall
      have HU2 := Lib.hid hu
      have HB := Lib.hid hb
      have HO := Lib.hid ho
      have HV := Lib.hid hv
      have HMb := Lib.hid hMb
      have e5 : (k : Int) < (t.size : Int) := by omega
      have d1 : wr.cell? ⟨w.heap.size, 1, none⟩ = some (.slice A k cv) := hb.cell 1
      clear hne hcell hall hu hb ho hv hxc hxl hMb
      by_cases hdx : dirB M[k] = true
      · have HY := Lib.hid (take_snoc_all hkM hdx HA.out)
        have HTS := Lib.hid (take_snoc_map .u8 M k hkM)
        rw [hdx] at hD
        clear hdx
        generalize M[k] = x at *
        have HD := Lib.hid hD
        clear hD
        go_wp2_with fail
        refine HD.out.mono ?_
        rintro e w' ⟨rfl, rfl⟩
        go_wp2_with (first
          | (at_builtin
             go_must (refine wpList_append_sl _ rfl (.tmp 42) (.tmp 44) _ rfl 27 i0 (.int .u8 0) 1 1 Try.underlying56 hi0 hz0 hz1 hz2 rfl (by omega) (.slice A k cv) k ((M.take k).map (Value.int .u8)) rfl (HO.out.alloc _) _ _ 1 [.int .u8 x] rfl (Sl.one _ _ _) (by simp [Value.oneCell']) (by simp only [maxLen]; omega) (by omega) ?_)
             intro v1 w1 hown1 hg1 hat1
             obtain ⟨A1, c1, rfl, hn1, hc1⟩ := own_shape hown1
             have k0 : w1.cell? ⟨w.heap.size, 1, none⟩ = some (.slice A k cv) := ((HB.out.alloc _).grown hg1 (fun e => HN.out e.symm)).cell 1
             have k1 : w1.frozen? ⟨w.heap.size, 1, none⟩ = false := ((HB.out.alloc _).grown hg1 (fun e => HN.out e.symm)).frozen 1))
        go_roundw
        case rel =>
          have hb1 := (HB.out.alloc _).grown hg1 (fun e => HN.out e.symm)
          have hsz := HU2.out.size
          refine ⟨k + 1, by omega, by go_num, ((HU2.out.alloc _).grown hg1 (fun q hq => .inr (by have := HV.out q hq; omega))).setCell (.inr (Nat.le_refl _)) _, ?_, HY.out, .slice A1 (k + 1) c1, hb1.set_ 1 _, ?_, ?_⟩
          · refine ((HS.out.alloc _).upd (G := fun q => q ≠ w.heap.size + 1) ((Upd.refl _ _).grown hg1 (fun q hq => .inl ?_)) (fun q hq h => h hq)).upd (G := fun q => q ≠ w.heap.size + 1) ((Upd.refl _ _).setCell (p := ⟨w.heap.size, 1, none⟩) (.inl (by simp)) _) (fun q hq h => h hq)
            have := HV.out q hq
            omega
          · rw [HTS.out]
            exact ownsRow_setCell_other (a := ⟨w.heap.size, 1, none⟩) hown1 (own_blk_ne hown1 hb1 (by decide)) _
          · intro q hq
            rcases hat1 with h | h
            · rw [h] at hq; exact HV.out q hq
            · rw [h] at hq
              have := HS.out
              simp at hq
              omega
        case measure => simp [intOf]; omega
      · have hdx' : dirB M[k] = false := by simpa using hdx
        have HY := Lib.hid (dirsB_no hkM hdx')
        rw [hdx'] at hD
        clear hdx hdx'
        generalize M[k] = x at *
        have HD := Lib.hid hD
        clear hD
        go_wp2_with fail
        refine HD.out.mono ?_
        rintro e w' ⟨rfl, rfl⟩
        go_wp2_with fail
        go_ret2
        exact .inl ⟨by rw [HNM.out]; exact HY.out, rfl, HU2.out⟩
    · have hkm : k = t.size := by omega
      subst hkm
      rw [List.take_of_length_le (by rw [HM.out]; exact Nat.le_refl _)] at hall ho
      have HA := Lib.hid (dirsB_yes hall)
      have HU2 := Lib.hid hu
      have HB := Lib.hid hb
      have HO := Lib.hid ho
      have HV := Lib.hid hv
      clear hall hu hb ho hv hs hMb
      go_wp2_with fail
      go_ret2
      rw [HNM.out]
      refine .inr ⟨HA.out, _, rfl, HU2.out, fun q => w.heap.size ≤ q ∧ q < wr.heap.size, fun q hq => hq, w.heap.size, _, rfl, ⟨Nat.le_refl _, HB.out.lt⟩, HB.out, by rw [HM.out]; exact HO.out, fun q hq => ⟨?_, (HO.out.lt q hq).2⟩⟩
      have := HV.out q hq
      omega
end Go.Proofs.Ytkcehpnppfmfnaa
