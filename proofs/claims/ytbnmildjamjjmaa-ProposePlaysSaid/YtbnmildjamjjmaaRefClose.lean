/-
  The reference desk: Close. Conditions: at most 1000 open slots.
-/
import Derived.Test.YtbnmildjamjjmaaRefDsk
namespace Go.Proofs.Ytbnmildjamjjmaa
open Go.RowKit

set_option maxRecDepth 100000 in
set_option maxHeartbeats 4000000 in
theorem rdclose_any {w : World} {G : Nat → Prop} {v : Value} {L : List RX} (h : RDesk w G v L) (hG : ∀ g, G g → g < w.heap.size) (last s : Int) (hl : L.length ≤ 1000) :
    Calls Try.prog 13 #[.agg #[v, .int .u64 last], .int .u64 s] w fun e w' => ∃ v', e = .returned (.agg #[v', .int .u64 last]) ∧ Upd (fun _ => False) w w' ∧ RDesk w' (fun g => G g ∨ (w.heap.size ≤ g ∧ g < w'.heap.size)) v' (closeR L s) := by
  obtain ⟨i0, hi0, hz0, hz1, hz2⟩ := info_parts infoROpen
  obtain ⟨A, c, rfl, hnc, hcm⟩ := h.1.shape
  have HD := Lib.hid h
  have HG := Lib.hid hG
  have hl' : (L.length : Int) ≤ 1000 := by omega
  have HL := Lib.hid hl
  obtain ⟨n, hn⟩ : ∃ n, L.length = n := ⟨_, rfl⟩
  have HN := Lib.hid hn
  rw [hn] at hl' hnc ⊢
  unfold maxLen at hcm
  clear h hG hcm hl hn
  go_enter Try.func13, Try.ntmps13
  go_wp2_with fail
  obtain ⟨W0, hW0⟩ : ∃ W0, W0 = (w.alloc (.cells #[.slice A n c, .int .u64 last] 30)).alloc (.cells #[.slice none 0 0, .int .u64 0] 30) := ⟨_, rfl⟩
  have HU0 : Hid (Upd (fun _ => False) w W0) := by rw [hW0]; exact ((Upd.refl _ _).alloc _).alloc _
  have HB0 : Hid (Blk W0 w.heap.size 30 #[.slice A n c, .int .u64 last]) := by rw [hW0]; exact (Blk.new _ _ _).alloc _
  have HR0 : Hid (Blk W0 (w.heap.size + 1) 30 #[.slice none 0 0, .int .u64 0]) := by rw [hW0]; exact Blk.newAt _ _ _ (by simp)
  have HZ0 : Hid (W0.heap.size = w.heap.size + 2) := by show W0.heap.size = _; rw [hW0]; simp
  rw [← hW0]
  clear hW0
  go_loopw [5, 6] (fun v i wr => ∃ k : Nat, k ≤ n ∧ i = .int .i64 k ∧ wr.ownsRow 0 69 4 v (closeR (L.take k) s).length ((closeR (L.take k) s).flatMap xCells) ∧ Upd (fun _ => False) W0 wr ∧ (∀ g, v.ownBlock = some g → w.heap.size + 2 ≤ g)) (fun _ i _ => n - (intOf i).toNat)
  case atStart => exact ⟨0, Nat.zero_le _, rfl, World.ownsRow_nil _ _ _ _, Upd.refl _ _, fun g hg => by simp [Value.ownBlock] at hg⟩
  case round =>
    obtain ⟨k, hk, rfl, hown, hu, hv⟩ := hrel
    obtain ⟨A1, c1, rfl, hn1, hc1⟩ := row_shape hown
    have HO := Lib.hid hown
    have HU := Lib.hid hu
    have HV := Lib.hid hv
    have d0 : wr.cell? ⟨w.heap.size, 0, none⟩ = some (.slice A n c) := (HB0.out.upd hu id).cell 0
    have d1 : wr.cell? ⟨w.heap.size, 1, none⟩ = some (.int .u64 last) := (HB0.out.upd hu id).cell 1
    have hpl : (closeR (L.take k) s).length ≤ n := by
      have h1 := closeR_len (L.take k) s
      have h2 : (L.take k).length ≤ L.length := by rw [List.length_take]; omega
      have := HN.out
      omega
    by_cases hlt : k < n
    · have hkl : k < L.length := by rw [HN.out]; exact hlt
      obtain ⟨b1, o1, c', e, hGb, hbl, e0, e1, e2, e3⟩ := HD.out.row hkl
      simp only [Value.slice.injEq] at e
      obtain ⟨rfl, _, _⟩ := e
      have hr : ∀ j u, w.cell? ⟨b1, j, none⟩ = some u → wr.cell? ⟨b1, j, none⟩ = some u := fun j u hc => ((HU0.out.trans HU.out (fun _ _ h => h)).cell (p := ⟨b1, j, none⟩) hbl id).trans hc
      have e0 := hr _ _ e0
      have e1 := hr _ _ e1
      have e2 := hr _ _ e2
      have e3 := hr _ _ e3
      have HT := Lib.hid (closeR_take (s := s) hkl)
      have HXC : Hid (xCells L[k] = [.int .u64 L[k].slot, .string L[k].val, L[k].vc, L[k].vh]) := rfl
      have h1c : Hid (L[k].vc.oneCell' = true ∧ L[k].vh.oneCell' = true) := by
        obtain ⟨q1, q2⟩ := HD.out.2 L[k] (List.getElem_mem hkl)
        obtain ⟨_, _, e, _⟩ := q1.shape
        obtain ⟨_, _, e', _⟩ := q2.shape
        exact ⟨by rw [e]; rfl, by rw [e']; rfl⟩
      clear hown hu hv hr
      generalize hLk : closeR (L.take k) s = Lk at *
      generalize hsl : L[k].slot = sl at *
      generalize L[k].val = vl at *
      generalize L[k].vc = vc at *
      generalize L[k].vh = vh at *
      clear hLk hsl
      have H1C : Hid (∀ u ∈ [Value.int .u64 sl, .string vl, vc, vh], u.oneCell' = true) := by
        intro u hu
        simp only [List.mem_cons, List.not_mem_nil, or_false] at hu
        rcases hu with rfl | rfl | rfl | rfl
        · rfl
        · rfl
        · exact h1c.out.1
        · exact h1c.out.2
      clear h1c
      cases hti : (sl != s)
      · rw [hti] at HT
        go_wp2_with fail
        go_roundw
        case rel => exact ⟨k + 1, by omega, by go_num, by rw [HT.out]; simpa using HO.out, HU.out, HV.out⟩
        case measure => simp [intOf]; omega
      · rw [hti] at HT
        go_wp2_with (first
          | (at_builtin
             go_must (refine wpList_append_sl _ rfl (.tmp 22) (.tmp 28) _ rfl 69 i0 _ 4 72 Try.underlying27 hi0 hz0 hz1 hz2 rfl (by omega) (.slice A1 Lk.length c1) Lk.length (Lk.flatMap xCells) rfl (HO.out.alloc _) _ _ 1 [.int .u64 sl, .string vl, vc, vh] rfl (slOne4 _ _ _ _ _ _) H1C.out (by simp only [maxLen]; omega) (by omega) ?_)
             intro v1 w1 hown1 hg1 hat1))
        go_roundw
        case rel =>
          refine ⟨k + 1, by omega, by go_num, by rw [HT.out]; simpa [HXC.out] using hown1, (HU.out.alloc _).grown hg1 (fun q hq => .inr (by have := HV.out q hq; have := HZ0.out; omega)), ?_⟩
          intro q hq
          rcases hat1 with h | h
          · rw [h] at hq; exact HV.out q hq
          · rw [h] at hq
            have := HU.out.size
            have := HZ0.out
            simp at hq
            omega
        case measure => simp [intOf]; omega
    · have hkm : k = n := by omega
      subst hkm
      have ht : L.take k = L := List.take_of_length_le (by rw [HN.out]; exact Nat.le_refl _)
      rw [ht] at HO HV hn1 hpl ⊢
      have f0 : wr.cell? ⟨w.heap.size + 1, 0, none⟩ = some (.slice none 0 0) := (HR0.out.upd hu id).cell 0
      have f1 : wr.cell? ⟨w.heap.size + 1, 1, none⟩ = some (.int .u64 0) := (HR0.out.upd hu id).cell 1
      have g0 : wr.frozen? ⟨w.heap.size + 1, 0, none⟩ = false := (HR0.out.upd hu id).frozen 0
      have g1 : wr.frozen? ⟨w.heap.size + 1, 1, none⟩ = false := (HR0.out.upd hu id).frozen 1
      have HRR := Lib.hid (HR0.out.upd hu id)
      clear hown hu hv ht
      go_wp2_with fail
      have hB := (HRR.out.set_ 0 (.slice A1 (closeR L s).length c1)).set_ 1 (.int .u64 last)
      have q0 := hB.cell 0
      have q1 := hB.cell 1
      simp at q0 q1
      have huz : Upd (fun j => j = w.heap.size + 1) wr ((wr.setCell ⟨w.heap.size + 1, 0, none⟩ (.slice A1 (closeR L s).length c1)).setCell ⟨w.heap.size + 1, 1, none⟩ (.int .u64 last)) := Upd.setCell (F := fun j => j = w.heap.size + 1) (Upd.setCell (F := fun j => j = w.heap.size + 1) (Upd.refl _ wr) (p := ⟨w.heap.size + 1, 0, none⟩) (.inl rfl) _) (p := ⟨w.heap.size + 1, 1, none⟩) (.inl rfl) _
      have hgz := HU0.out.trans HU.out (fun _ _ h => h)
      refine bodyPost_ret (v := .agg #[.slice A1 (closeR L s).length c1, .int .u64 last]) (by simp [results, Try.results13, go_sem, q0, q1]) rfl ⟨_, rfl, hgz.trans huz (fun i hi e => by omega), ?_⟩
      have hso := (Sl.own HO.out).upd huz (fun g hg e => by have := HV.out g hg; omega)
      have hlz := huz.size
      refine ⟨hso.more (fun g hg => .inr ⟨by have := HV.out g hg; omega, ?_⟩), fun x hx => ?_⟩
      · rcases HO.out.2 with ⟨e, _⟩ | ⟨g', cap, cur, e, _, hgg, _⟩
        · rw [e] at hg; exact (no_own_nil g hg).elim
        · rw [e] at hg
          simp [Value.ownBlock] at hg
          subst hg
          exact Nat.lt_of_lt_of_le (Array.getElem?_eq_some_iff.1 hgg).1 hlz
      · obtain ⟨x1, x2⟩ := HD.out.2 x (List.mem_filter.1 hx).1
        exact ⟨(((x1.upd hgz (fun _ _ h => h)).upd huz (fun g hg e => by have := HG.out g hg; omega))).more (fun g hg => .inl hg), (((x2.upd hgz (fun _ _ h => h)).upd huz (fun g hg e => by have := HG.out g hg; omega))).more (fun g hg => .inl hg)⟩

end Go.Proofs.Ytbnmildjamjjmaa
