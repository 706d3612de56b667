/-
  Package propose: All. Conditions: a bound on how many open slots there are, as far as slices.Sort is known.
-/
import Derived.Test.YtbnmildjamjjmaaPropD
import Derived.Deep.RegionLaw
namespace Go.Proofs.Ytbnmildjamjjmaa
open Go.RowKit Go.Maps

def oCells (o : PO) : List Value := [.int .u64 o.slot, .string o.val, .int .u8 o.cfg, .int .u8 o.who]
theorem infoOpen : (Try.prog.info? 63).map (fun i => (i.zero, i.size, i.bytes)) = some (some (.agg #[.int .u64 0, .string ByteArray.empty, .int .u8 0, .int .u8 0]), 4, 32) := by kernel_rfl
theorem oCells_one (o : PO) : ∀ u ∈ oCells o, u.oneCell' = true := by
  intro u hu
  simp only [oCells, List.mem_cons, List.not_mem_nil, or_false] at hu
  rcases hu with rfl | rfl | rfl | rfl <;> rfl
theorem slOne4 (w : World) (t : TypeId) (a b c d : Value) : Sl (w.alloc (.cells #[a, b, c, d] t)) (fun k => k = w.heap.size) 4 (.slice (some ⟨w.heap.size, 0, none⟩) 1 1) 1 [a, b, c, d] := by
  refine ⟨rfl, _, 1, rfl, Nat.le_refl _, by simp [maxLen], (fun h => by cases h), fun _ => ⟨_, 0, rfl, rfl, by simp, fun j u hu => ?_⟩⟩
  have hc := (Blk.new w t #[a, b, c, d]).cell (0 + j)
  rw [hc, Nat.zero_add]
  simpa using hu

set_option maxRecDepth 100000 in
set_option maxHeartbeats 1000000 in
theorem all1_any {w : World} {F : Nat → Prop} {p : Value} {M : List PO} {last : Int} (h : Dsk w F p M last) (hr : Rising M) (o : PO) (ho : o ∈ M) (bo bd : Nat) (v : Value) (k : Nat) (xs : List Value)
    (hk : k ≤ 100000) (hbo : Blk w bo 47 #[v]) (hbd : Blk w bd 25 #[p]) (hv : w.ownsRow 0 63 4 v k xs) :
    Calls Try.prog 31 #[.int .u64 o.slot, .pointer (some ⟨bo, 0, none⟩), .pointer (some ⟨bd, 0, none⟩)] w fun e w' => e = .returned (.tuple #[]) ∧ ∃ v', Blk w' bo 47 #[v'] ∧ w'.ownsRow 0 63 4 v' (k + 1) (xs ++ oCells o) ∧
      Upd (fun j => j = bo ∨ v.ownBlock = some j) w w' ∧ (∀ j, v'.ownBlock = some j → v.ownBlock = some j ∨ w.heap.size ≤ j) := by
  have hw := hr.2 o ho
  obtain ⟨b, m, n, D, rfl, hb, hm, hB, hO, hR⟩ := h
  obtain ⟨i0, hi0, hz0, hz1, hz2⟩ := info_parts infoOpen
  obtain ⟨A, c, rfl, hc1, hc2⟩ := row_shape hv
  obtain ⟨c0, ps, hrun, hRc⟩ := hO.drew.lookup keyedU Try.underlying64 (zeroO _) (zd := .held ⟨0, ByteArray.empty, 0, 0⟩) (zp := []) rfl (keyU hw)
  rw [hR.at_ o ho] at hRc
  obtain rfl := oR_inv hRc
  have e0 : w.drew.cell? ⟨bo, 0, none⟩ = some (.slice A k c) := hbo.cell 0
  have e1 : w.drew.cell? ⟨bd, 0, none⟩ = some (.pointer (some ⟨b, 0, none⟩)) := hbd.cell 0
  have e2 : w.drew.cell? ⟨b, 0, none⟩ = some (.map (some m)) := hB.cell 0
  have HBO := Lib.hid hbo
  have HV := Lib.hid hv
  have HK := Lib.hid hk
  have HNE := Lib.hid (own_blk_ne hv hbo (by decide))
  unfold oVal at hrun
  have e3 : (w.alloc (.cells #[.int .u64 o.slot, .string o.val, .int .u8 o.cfg, .int .u8 o.who] 63)).cell? ⟨bo, 0, none⟩ = some (.slice A k c) := (hbo.alloc _).cell 0
  clear hbo hbd hv hB hO hR hRc hw ho hr hb hm
  obtain ⟨slot, val, cfg, who⟩ := o
  go_enter Try.func31, Try.ntmps31
  go_wp2_with fail
  go_region_law (refine step_append_sl _ (by rfl) (.tmp 4) (.tmp 11) _ (by rfl) 63 i0 _ 4 32 Try.underlying47 hi0 hz0 hz1 hz2 rfl (by omega) (.slice A k c) k xs (by rfl) (by exact (HV.out.alloc _)) _ _ 1 (oCells ⟨slot, val, cfg, who⟩) (by rfl) (by exact slOne4 _ _ _ _ _ _) (oCells_one _) (by simp only [maxLen]; omega) (by omega) ?_; intro v2 w2 hown2 hg2 hat2; obtain ⟨A2, c2, rfl, _, _⟩ := row_shape hown2; have hb2 : Blk w2 bo 47 #[.slice A k c] := Blk.grown (w := (w.alloc (.cells #[.int .u64 slot, .string val, .int .u8 cfg, .int .u8 who] 63)).drew) (HBO.out.alloc _) hg2 (fun e => HNE.out e.symm); have r0 : w2.cell? ⟨bo, 0, none⟩ = some (.slice A k c) := hb2.cell 0; have r1 : w2.frozen? ⟨bo, 0, none⟩ = false := hb2.frozen 0)
  all_goals
    go_wp2
    go_end0
    have hne2 := own_blk_ne hown2 hb2 (by decide)
    have hu2 : Upd (fun j => j = bo ∨ Value.ownBlock (.slice A k c) = some j) w w2 := Upd.grown (F := fun j => j = bo ∨ Value.ownBlock (.slice A k c) = some j) ((Upd.refl _ w).alloc (.cells #[.int .u64 slot, .string val, .int .u8 cfg, .int .u8 who] 63)).drew hg2 (fun j hj => .inl (.inr hj))
    refine ⟨rfl, _, by simpa using hb2.set_ 0 (.slice A2 (k + 1) c2), own_upd hown2 (F := fun j => j = bo) (Upd.setCell (F := fun j => j = bo) (Upd.refl _ _) (p := ⟨bo, 0, none⟩) (.inl rfl) _) (fun g hg h => hne2 (by rw [hg, h])), hu2.setCell (p := ⟨bo, 0, none⟩) (.inl (.inl rfl)) _, fun j hj => ?_⟩
    rcases hat2 with h | h
    · exact .inl (h ▸ hj)
    · rw [h] at hj
      have := Option.some.inj hj
      simp at this
      exact .inr (by omega)

theorem pall_nil (w : World) : Calls Try.prog 17 #[.pointer none] w fun e w' => e = .returned (.slice none 0 0) ∧ Upd (fun _ => False) w w' := by
  go_enter Try.func17, Try.ntmps17
  go_wp2_with fail
  go_ret
  exact ⟨rfl, (Upd.refl _ _).alloc _⟩

/-- The open slots as All gathers them. -/
def AllI (w3 : World) (bo : Nat) (M : List PO) (k : Nat) (wr : World) : Prop :=
  Upd (fun j => j = bo) w3 wr ∧ ∃ vo, Blk wr bo 47 #[vo] ∧ wr.ownsRow 0 63 4 vo k ((M.take k).flatMap oCells) ∧ ∀ j, vo.ownBlock = some j → w3.heap.size ≤ j

set_option maxRecDepth 100000 in
set_option maxHeartbeats 2000000 in
theorem pall_any {N : Nat} (hS : SortOk N) {w : World} {F : Nat → Prop} {p : Value} {M : List PO} {last : Int} (h : Dsk w F p M last) (hr : Rising M) (hl : M.length ≤ 1000) (hN : M.length ≤ N) :
    Calls Try.prog 17 #[p] w fun e w' => ∃ v, e = .returned v ∧ Upd (fun _ => False) w w' ∧ w'.ownsRow 0 63 4 v M.length (M.flatMap oCells) ∧ ∀ j, v.ownBlock = some j → w.heap.size ≤ j := by
  have hlt := h.lt
  obtain ⟨b, m, n, D, rfl, hb, hm, hB, hO, hR⟩ := h
  obtain ⟨W0, hW0⟩ : ∃ W0, W0 = (w.alloc (.cells #[.pointer (some ⟨b, 0, none⟩)] 25)).alloc (.cells #[.slice none 0 0] 47) := ⟨_, rfl⟩
  have hu0 : Upd (fun _ => False) w W0 := by rw [hW0]; exact ((Upd.refl _ _).alloc _).alloc _
  have hs0 : W0.heap.size = w.heap.size + 2 := by rw [hW0]; simp
  have hbx0 : Blk W0 w.heap.size 25 #[.pointer (some ⟨b, 0, none⟩)] := by rw [hW0]; exact (Blk.new _ _ _).alloc _
  have hbo0 : Blk W0 (w.heap.size + 1) 47 #[.slice none 0 0] := by rw [hW0]; exact Blk.newAt _ _ _ (by simp)
  have c0 : W0.cell? ⟨b, 0, none⟩ = some (.map (some m)) := (hB.upd hu0 id).cell 0
  rw [hW0] at c0
  have HS := Lib.hid (sorted_any hS (w := W0.alloc (.cells #[.map (some m)] 64)) (Bm := W0.heap.size) hR hr (by omega) hN (Blk.new _ _ _) ((owns_upd hO hu0 id).alloc _))
  have HD := Lib.hid (hlt.upd hu0 (fun _ _ h => h))
  have HU0 := Lib.hid hu0
  have HS0 := Lib.hid hs0
  have HX0 := Lib.hid hbx0
  have HO0 := Lib.hid hbo0
  have HRI := Lib.hid hr
  have hw0 : Hid (W0 = (w.alloc (.cells #[.pointer (some ⟨b, 0, none⟩)] 25)).alloc (.cells #[.slice none 0 0] 47)) := hW0
  clear hlt hb hm hB hO hR hu0 hs0 hbx0 hbo0 hr hS hN hW0
  go_enter Try.func17, Try.ntmps17
  go_wp2_with fail
  rw [← hw0.out]
  refine (keysO_any _ _).mono ?_
  rintro e w1 ⟨rfl, rfl⟩
  clear c0
  go_wp2_with fail
  refine HS.out.mono ?_
  rintro e w3 ⟨v, rfl, ho3, hb3⟩
  obtain ⟨A, c, rfl, hc1, hc2⟩ := row_shape ho3
  have hu3 : Upd (fun _ => False) W0 w3 := (Upd.refl _ _).alloc (.cells #[.map (some m)] 64) |>.trans (Upd.of_below hb3) (fun _ _ h => h)
  have hsz3 : w.heap.size + 2 ≤ w3.heap.size := by have := hu3.size; rw [HS0.out] at this; exact this
  have HI3 : Hid (AllI w3 (w.heap.size + 1) M 0 w3) := ⟨Upd.refl _ _, _, HO0.out.upd hu3 id, ⟨by simp, .inl ⟨rfl, rfl⟩⟩, fun j hj => (no_own_nil j hj).elim⟩
  have HD3 := Lib.hid (HD.out.upd hu3 (fun _ _ h => h))
  have HX3 := Lib.hid (HX0.out.upd hu3 id)
  have HU3 := Lib.hid (HU0.out.trans hu3 (fun _ _ h => h))
  have hcell3 : ∀ k (hk : k < M.length), ∃ g, A = some ⟨g, 0, none⟩ ∧ w.heap.size + 2 ≤ g ∧ g < w3.heap.size ∧ w3.cell? ⟨g, k, none⟩ = some (.int .u64 M[k].slot) := by
    intro k hk
    rcases ho3.2 with ⟨_, h0⟩ | ⟨g, cap, cur, he, hbg, hgg, _⟩
    · omega
    · simp only [Value.slice.injEq] at he
      obtain ⟨rfl, _, _⟩ := he
      refine ⟨g, rfl, ?_, (Array.getElem?_eq_some_iff.1 hgg).1, ?_⟩
      · simp at hbg; have := HS0.out; omega
      · rw [ho3.cellAt k (by omega)]
        simp [hk]
  have HC3 := Lib.hid hcell3
  have hnl : (M.length : Int) ≤ 1000 := by omega
  clear ho3 hb3 hu3 hcell3 HS HD HX0 HO0 HU0 hw0
  unfold maxLen at hc2
  clear hc2
  go_wp2_with fail
  go_loopw [6, 17] (fun _ i wr => ∃ k : Nat, k ≤ M.length ∧ i = .int .i64 k ∧ AllI w3 (w.heap.size + 1) M k wr) (fun _ i _ => M.length - (intOf i).toNat)
  case atStart => exact ⟨0, Nat.zero_le _, rfl, HI3.out⟩
  case round =>
    obtain ⟨k, hk, rfl, hu, vo, hbo, hov, hvo⟩ := hrel
    by_cases hlt : k < M.length
    · obtain ⟨g, rfl, hg1, hg2, hgc⟩ := HC3.out k hlt
      have hgr : wr.cell? ⟨g, k, none⟩ = some (.int .u64 M[k].slot) := (hu.cell (p := ⟨g, k, none⟩) hg2 (by show ¬ g = _; omega)).trans hgc
      have HA := Lib.hid (all1_any (HD3.out.upd hu (fun j hj h => by have := hj.2; omega)) HRI.out M[k] (List.getElem_mem hlt) (w.heap.size + 1) w.heap.size vo k _ (by omega) hbo (HX3.out.upd hu (by show ¬ w.heap.size = _; omega)) hov)
      have HU := Lib.hid hu
      have HVO := Lib.hid hvo
      have HT : Hid ((M.take k).flatMap oCells ++ oCells M[k] = (M.take (k + 1)).flatMap oCells) := by show _ = _; rw [List.take_succ_eq_append_getElem hlt, List.flatMap_append]; simp
      clear hgc hu hvo hbo hov
      generalize M[k].slot = sl at *
      go_wp2_with fail
      refine HA.out.mono ?_
      rintro e w4 ⟨rfl, v', hbo4, hov4, hu4, hv4⟩
      rw [HT.out] at hov4
      have hU4 : Upd (fun j => j = w.heap.size + 1) w3 w4 := HU.out.trans hu4 (fun j hj h => by
        rcases h with h | h
        · exact h
        · have := HVO.out j h; omega)
      have hv4' : ∀ j, v'.ownBlock = some j → w3.heap.size ≤ j := fun j hj => by
        rcases hv4 j hj with h | h
        · exact HVO.out j h
        · exact Nat.le_trans HU.out.size h
      have HI4 : Hid (AllI w3 (w.heap.size + 1) M (k + 1) w4) := ⟨hU4, v', hbo4, hov4, hv4'⟩
      clear hbo4 hov4 hu4 hv4 hU4 hv4'
      go_wp2_with fail
      go_roundw
      case rel => exact ⟨k + 1, by omega, by go_num, HI4.out⟩
      case measure => simp [intOf]; omega
    · have hke : k = M.length := by omega
      subst hke
      rw [List.take_of_length_le (Nat.le_refl _)] at hov
      have q0 : wr.cell? ⟨w.heap.size + 1, 0, none⟩ = some vo := hbo.cell 0
      have HU := Lib.hid hu
      have HVO := Lib.hid hvo
      have HOV := Lib.hid hov
      clear hu hvo hbo hov
      go_wp2_with fail
      go_ret
      refine ⟨vo, rfl, HU3.out.trans HU.out (fun j hj h => by omega), HOV.out, fun j hj => by have := HVO.out j hj; omega⟩

end Go.Proofs.Ytbnmildjamjjmaa
