/-
  ProposePlays: the statements' helper same answers true for desks that go alike. Conditions: at most 1000 open slots.
-/
import Derived.Test.YtbnmildjamjjmaaRefVoted
import Derived.Test.YtbnmildjamjjmaaSortI
import Derived.Deep.QuietTactic
import Derived.BigQuiet
namespace Go.Proofs.Ytbnmildjamjjmaa
open Go.RowKit Go.Maps

theorem flat4O : ∀ (L : List PO) (k : Nat) (hk : k < L.length) (j : Nat), j < 4 → (L.flatMap oCells)[k * 4 + j]? = (oCells L[k])[j]?
  | x :: L, 0, _, j, hj => by
    rw [List.flatMap_cons, List.getElem?_append_left (by simp [oCells]; omega)]
    simp
  | x :: L, k + 1, hk, j, hj => by
    rw [List.flatMap_cons, List.getElem?_append_right (by simp [oCells]; omega)]
    have := flat4O L k (by simpa using hk) j hj
    rw [show (k + 1) * 4 + j - (oCells x).length = k * 4 + j by simp [oCells]; omega, this]
    simp
theorem set_quiet {w : World} {G : Nat → Prop} {v : Value} {m : Nat} {l : List Int} {c : Int} (hs : Sl w G 1 v m (l.map (Value.int .u8))) (hm : m ≤ 1000000) (hc : setK l 7 = c) (n : Nat) :
    Calls Try.prog 30 #[v] (w.drewN n) fun e w' => e = .returned (.int .u8 c) ∧ w' = w.drewN n := by
  subst hc
  exact (r8set_any v m l (w.drewN n) G (hs.drewN n) hm).mono fun e w' ⟨he, hw⟩ => ⟨he, hw.symm⟩

set_option maxRecDepth 100000 in
set_option maxHeartbeats 4000000 in
theorem same_any {w : World} {F G : Nat → Prop} {p v : Value} {M : List PO} {L : List RX} {last : Int} (hd : Dsk w F p M last) (hr : Rising M) (hR : RDesk w G v L) (hG : ∀ g, G g → g < w.heap.size) (hrel : RelL M (L.map RX.px)) (hl : M.length ≤ 1000) (hlc : ∀ x ∈ L, x.cfg.length ≤ 900 ∧ x.who.length ≤ 900) :
    Calls Try.prog 16 #[p, .agg #[v, .int .u64 last]] w fun e w' => e = .returned (.bool true) ∧ Upd (fun _ => False) w w' := by
  obtain ⟨A, c, rfl, hnc, hcm⟩ := hR.1.shape
  have hlen : M.length = L.length := by have := hrel.len; simpa using this
  have HP := Lib.hid (pall_any sort_any (hd.upd ((Upd.refl (fun _ => False) w).alloc (.cells #[.slice A L.length c, .int .u64 last] 30)) (fun _ _ h => h)) hr hl (by omega))
  have HD := Lib.hid hd
  have HR := Lib.hid hR
  have HG := Lib.hid hG
  have HREL := Lib.hid hrel
  have HLC := Lib.hid hlc
  obtain ⟨m, hm⟩ : ∃ m, M.length = m := ⟨_, rfl⟩
  have HM := Lib.hid hm
  have HML : Hid (L.length = m) := by show _ = _; rw [← hlen]; exact hm
  have hl' : (m : Int) ≤ 1000 := by omega
  rw [HML.out] at hnc HP ⊢
  rw [hm] at HP
  unfold maxLen at hcm
  obtain ⟨q, rfl⟩ := hd.ptr
  clear hd hr hR hG hrel hlc hlen hm hl hcm
  go_enter Try.func16, Try.ntmps16
  go_wp2_with fail
  refine HP.out.mono ?_
  rintro e w3 ⟨vl, rfl, hu3, ho3, hv3⟩
  obtain ⟨Al, c3, rfl, hm3, hc3⟩ := row_shape ho3
  unfold maxLen at hc3
  have hu03 : Upd (fun _ => False) w w3 := ((Upd.refl (fun _ => False) w).alloc _).trans hu3 (fun _ _ h => h)
  have HU3 := Lib.hid hu03
  have HBX := Lib.hid ((Blk.new w 30 #[.slice A m c, .int .u64 last]).upd hu3 id)
  have d0 : w3.cell? ⟨w.heap.size, 0, none⟩ = some (.slice A m c) := HBX.out.cell 0
  have d1 : w3.cell? ⟨w.heap.size, 1, none⟩ = some (.int .u64 last) := HBX.out.cell 1
  have HO3 := Lib.hid ho3
  have HV3 := Lib.hid hv3
  have HD3 := Lib.hid (HD.out.upd hu03 (fun _ _ h => h))
  clear hu3 ho3 hv3 hu03
  go_wp2_with fail
  go_quiet ((go_at_call 18; exact Calls.quiet_of_same ((plast_any (HD3.out.drewN _)).mono (fun e w' h => ⟨h.1, h.2.symm⟩))))
  go_wp2_with fail
  clear d0 d1
  go_loopw [6] (fun i wr => ∃ k : Nat, k ≤ m ∧ i = .int .i64 k ∧ Upd (fun _ => False) w3 wr) (fun i _ => m - (intOf i).toNat)
  case atStart => exact ⟨0, Nat.zero_le _, rfl, (Upd.refl _ _).drewN _⟩
  case round =>
    obtain ⟨k, hk, rfl, hu⟩ := hrel
    have d0 : wr.cell? ⟨w.heap.size, 0, none⟩ = some (.slice A m c) := (HBX.out.upd hu id).cell 0
    by_cases hlt : k < m
    · have hkM : k < M.length := by rw [HM.out]; exact hlt
      have hkL : k < L.length := by rw [HML.out]; exact hlt
      have hrx := HREL.out.at_ k hkM (by simpa using hkL)
      rw [List.getElem_map] at hrx
      obtain ⟨lc1, lw1⟩ := HLC.out L[k] (List.getElem_mem hkL)
      have hU := (HU3.out.trans hu (fun _ _ h => h))
      obtain ⟨b, o, c', e, hGb, hbl, e0, e1, e2, e3⟩ := (HR.out.upd hU (fun _ _ h => h)).row hkL
      simp only [Value.slice.injEq] at e
      obtain ⟨rfl, eL, eC⟩ := e
      clear eL eC
      obtain ⟨hsc, hsh⟩ := (HR.out.upd hU (fun _ _ h => h)).2 L[k] (List.getElem_mem hkL)
      obtain ⟨g, cap, e, _, hgl⟩ := HO3.out.form (by omega : 0 < m)
      simp only [Value.slice.injEq] at e
      obtain ⟨rfl, _, eC⟩ := e
      clear eC
      have hcc : ∀ j, j < 4 → wr.cell? ⟨g, k * 4 + j, none⟩ = (oCells M[k])[j]? := by
        intro j hj
        refine (hu.cell (p := ⟨g, k * 4 + j, none⟩) hgl id).trans ?_
        rw [HO3.out.cellAt (k * 4 + j) (by omega), flat4O M k hkM j hj]
      obtain ⟨og, hog⟩ : ∃ og, og = 0 := ⟨_, rfl⟩
      have HOG := Lib.hid hog
      obtain ⟨y, hy⟩ : ∃ y, M[k] = y := ⟨_, rfl⟩
      obtain ⟨x, hx⟩ : ∃ x, L[k] = x := ⟨_, rfl⟩
      rw [hy] at hrx hcc
      rw [hx] at hrx e0 e1 e2 e3 hsc hsh lc1 lw1
      obtain ⟨sl, vl, cf, wh⟩ := y
      obtain ⟨sl', vl', vc, vh, cl, wl⟩ := x
      obtain ⟨r1, r2, r3, r4, r5, r6, _⟩ := hrx
      dsimp only [RX.px] at r1 r2 r3 r4 r5 r6 hsc hsh lc1 lw1 e0 e1 e2 e3
      subst r1 r2 r5
      have hset := setK_listK r3 r4
      obtain ⟨Ac, cc, rfl, _, _⟩ := hsc.shape
      obtain ⟨Ah, ch, rfl, _, _⟩ := hsh.shape
      have hcc0 : wr.cell? ⟨g, k * 4, none⟩ = some (.int .u64 sl) := hcc 0 (by omega)
      have hcc1 : wr.cell? ⟨g, k * 4 + 1, none⟩ = some (.string vl) := hcc 1 (by omega)
      have hcc2 : wr.cell? ⟨g, k * 4 + 2, none⟩ = some (.int .u8 cf) := hcc 2 (by omega)
      have hcc3 : wr.cell? ⟨g, k * 4 + 3, none⟩ = some (.int .u8 wh) := hcc 3 (by omega)
      obtain ⟨nc, hnc1⟩ : ∃ nc, (listK cf 7).length = nc := ⟨_, rfl⟩
      obtain ⟨nh, hnh1⟩ : ∃ nh, wl.length = nh := ⟨_, rfl⟩
      rw [hnc1] at hsc e2 lc1
      rw [hnh1] at hsh e3 lw1
      have hlw : g < wr.heap.size := Nat.lt_of_lt_of_le hgl hu.size
      obtain ⟨W2, hW2⟩ : ∃ W2, W2 = wr.alloc (.cells #[.int .u64 sl, .string vl, .slice Ac nc cc, .slice Ah nh ch] 69) := ⟨_, rfl⟩
      have hu2 : Upd (fun _ => False) wr W2 := by rw [hW2]; exact (Upd.refl _ _).alloc _
      have hb2 : Blk W2 wr.heap.size 69 #[.int .u64 sl, .string vl, .slice Ac nc cc, .slice Ah nh ch] := by rw [hW2]; exact Blk.new _ _ _
      have HS1 : Hid (∀ n, Calls Try.prog 30 #[.slice Ac nc cc] (W2.drewN n) fun e w' => e = .returned (.int .u8 cf) ∧ w' = W2.drewN n) := set_quiet (hsc.upd hu2 (fun _ _ h => h)) (by omega) hset
      have HS2 : Hid (∀ n, Calls Try.prog 30 #[.slice Ah nh ch] (W2.drewN n) fun e w' => e = .returned (.int .u8 wh) ∧ w' = W2.drewN n) := set_quiet (hsh.upd hu2 (fun _ _ h => h)) (by omega) r6.symm
      have g0 := (hu2.cell (p := ⟨g, k * 4, none⟩) hlw id).trans hcc0
      have g1 := (hu2.cell (p := ⟨g, k * 4 + 1, none⟩) hlw id).trans hcc1
      have g2 := (hu2.cell (p := ⟨g, k * 4 + 2, none⟩) hlw id).trans hcc2
      have g3 := (hu2.cell (p := ⟨g, k * 4 + 3, none⟩) hlw id).trans hcc3
      have x0 : W2.cell? ⟨wr.heap.size, 0, none⟩ = some (.int .u64 sl) := hb2.cell 0
      have x1 : W2.cell? ⟨wr.heap.size, 1, none⟩ = some (.string vl) := hb2.cell 1
      have x2 : W2.cell? ⟨wr.heap.size, 2, none⟩ = some (.slice Ac nc cc) := hb2.cell 2
      have x3 : W2.cell? ⟨wr.heap.size, 3, none⟩ = some (.slice Ah nh ch) := hb2.cell 3
      have HU2 := Lib.hid (hu.trans hu2 (fun _ _ h => h))
      have HW2 := Lib.hid hW2
      clear hcc hcc0 hcc1 hcc2 hcc3 hset r3 r4 r6 hsc hsh hu hU hu2 hb2 hW2 hnc1 hnh1 hy hx hog
      go_wp2_with fail
      rw [← HW2.out]
      go_quiet (first | (go_at_call 30; with_reducible exact Calls.quiet_of_same (HS1.out _)) | (go_at_call 30; with_reducible exact Calls.quiet_of_same (HS2.out _)))
      go_wp2_with fail
      go_roundw
      case rel => exact ⟨k + 1, by omega, by go_num, HU2.out.drewN _⟩
      case measure => simp [intOf]; omega
    · have HU := Lib.hid (HU3.out.trans hu (fun _ _ h => h))
      clear hu
      go_wp2_with fail
      go_ret
      exact ⟨rfl, HU.out⟩

end Go.Proofs.Ytbnmildjamjjmaa
