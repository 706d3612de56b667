/-
  Package propose: Voted of an open slot. Conditions: fewer than 100000 open slots.
-/
import Derived.Test.YtbnmildjamjjmaaPropA
import Derived.Deep.DeepCutAuto
namespace Go.Proofs.Ytbnmildjamjjmaa
open Go.RowKit Go.Maps

set_option maxRecDepth 100000 in
set_option maxHeartbeats 2000000 in
theorem pvoted_yes {w : World} {F : Nat → Prop} {p : Value} {M : List PO} {last : Int} (h : Dsk w F p M last) (n : Int) (o : PO) (ho : o ∈ M) (hr : Rising M) (h0 : 0 ≤ n) (h1 : n ≤ 255) (hl : M.length ≤ 100000) :
    Calls Try.prog 14 #[p, .int .u8 n, .int .u64 o.slot] w fun e w' => (setMaj o.cfg (votedO o n).who = false ∧ e = .returned (.tuple #[.agg #[.int .u64 0, .string ByteArray.empty], .bool false]) ∧ Upd F w w' ∧ Dsk w' F p (setM M (votedO o n)) last) ∨
      (setMaj o.cfg (votedO o n).who = true ∧ e = .returned (.tuple #[.agg #[.int .u64 o.slot, .string o.val], .bool true]) ∧ Upd F w w' ∧ Dsk w' F p (closeM (setM M (votedO o n)) o.slot) last) := by
  have hw := hr.2 o ho
  obtain ⟨b, m, k, D, rfl, hb, hm, hB, hO, hR⟩ := h
  have hO := owns_tight hO
  rw [hR.size] at hO
  have hbm := blk_ne_map hB hO
  have c0 : (w.alloc (.cells #[.int .u64 0, .string { data := #[] }] 41)).cell? ⟨b, 0, none⟩ = some (.map (some m)) := (hB.alloc _).cell 0
  have hyes : Maps.has D (.int .u64 o.slot) = true := by rw [hR.has _ hw]; exact any_slot.2 ⟨o, ho, rfl⟩
  have hat := hR.at_ o ho
  have HW := Lib.hid hw
  have HA := Lib.hid hat
  have HO := Lib.hid hO
  have HR := Lib.hid (reads_set hR (o := votedO o n) hw (any_slot.2 ⟨o, ho, rfl⟩))
  have HB := Lib.hid hB
  have HBM := Lib.hid hbm
  have HF := Lib.hid (And.intro hb hm)
  have HRS := Lib.hid (setM_rising hr (votedO o n))
  clear hR hw hB hat hO hr hbm hb hm ho
  obtain ⟨slot, val, cfg, who⟩ := o
  go_enter Try.func14, Try.ntmps14
  go_wp2_with (at_lookup; refine wpList_lookup_own_ok _ rfl _ _ 64 rfl 28 63 keyedU Try.underlying64 oR (zeroO _) (.held ⟨0, ByteArray.empty, 0, 0⟩) [] rfl m M.length D rfl (HO.out.alloc _) _ (.int .u64 slot) rfl (keyU HW.out) ?_; intro v ps hv; rw [HA.out] at hv; have hv := oR_inv hv; subst hv; unfold oVal)
  go_wp2_with fail
  obtain ⟨W0, hW0⟩ : ∃ W0, W0 = (w.alloc (.cells #[.int .u64 0, .string { data := #[] }] 41)).alloc (.cells #[.int .u64 slot, .string val, .int .u8 cfg, .int .u8 who] 63) := ⟨_, rfl⟩
  have hu0 : Upd (fun _ => False) w W0 := by rw [hW0]; exact ((Upd.refl _ _).alloc _).alloc _
  have hb0 : Blk W0 (w.heap.size + 1) 63 #[.int .u64 slot, .string val, .int .u8 cfg, .int .u8 who] := by rw [hW0]; exact Blk.newAt _ _ _ (by simp)
  have hi0 : Blk W0 w.heap.size 41 #[.int .u64 0, .string { data := #[] }] := by rw [hW0]; exact (Blk.new _ _ _).alloc _
  rw [← hW0]
  have hsz : W0.heap.size = w.heap.size + 2 := by rw [hW0]; simp
  have KS : Hid (∀ wx, Upd (fun _ => False) W0 wx → wx.cell? ⟨w.heap.size + 1, 2, none⟩ = some (.int .u8 cfg) ∧ wx.cell? ⟨w.heap.size + 1, 3, none⟩ = some (.int .u8 who) ∧ wx.frozen? ⟨w.heap.size + 1, 3, none⟩ = false) := fun wx hu => ⟨(hb0.upd hu id).cell 2, (hb0.upd hu id).cell 3, (hb0.upd hu id).frozen 3⟩
  have c2 := (KS.out W0 (Upd.refl _ _)).1
  have c3 := (KS.out W0 (Upd.refl _ _)).2.1
  have f3 := (KS.out W0 (Upd.refl _ _)).2.2
  have HB0 := Lib.hid hb0
  have HI0 := Lib.hid hi0
  have HU0 := Lib.hid hu0
  clear hW0 hu0 hb0 hi0 hv hO c0
  go_cut [] (fun wx => wx = ((W0.setCell ⟨w.heap.size + 1, 3, none⟩ (.int .u8 (votedO ⟨slot, val, cfg, who⟩ n).who)).alloc (.cells #[.int .u8 n] 5)).drew)
  case first =>
    go_region_with (first
      | (go_at_call 21; refine (of_one _ _ _ 5 (by exact Blk.newAt W0 5 #[.int .u8 n] hsz.symm) h0 h1).mono ?_; rintro e w' ⟨rfl, rfl⟩)
      | (go_at_call 26; refine (both_any _ _ _).mono ?_; rintro e w' ⟨rfl, rfl⟩)
      | (go_at_call 19; refine (with_any _ _ _).mono ?_; rintro e w' ⟨rfl, rfl⟩))
    all_goals (go_wp2_with fail; go_meet; exact rfl)
  case rest =>
    obtain ⟨W1, hW1⟩ : ∃ W1, W1 = wc := ⟨_, rfl⟩
    rw [← hW1] at hcut ⊢
    clear hW1
    have hu1 : Upd (fun _ => False) w W1 := by rw [hcut]; exact ((HU0.out.setCell (p := ⟨w.heap.size + 1, 3, none⟩) (.inr (by show w.heap.size ≤ w.heap.size + 1; omega)) _).alloc _).drew
    have hs1 : W1.heap.size = w.heap.size + 3 := by rw [hcut]; simp [World.setCell, hsz]
    have hb1 : Blk W1 (w.heap.size + 1) 63 #[.int .u64 slot, .string val, .int .u8 cfg, .int .u8 (votedO ⟨slot, val, cfg, who⟩ n).who] := by rw [hcut]; exact (HB0.out.set_ 3 _).alloc _
    have hi1 : Blk W1 w.heap.size 41 #[.int .u64 0, .string { data := #[] }] := by rw [hcut]; exact (HI0.out.far (p := ⟨w.heap.size + 1, 3, none⟩) (by show w.heap.size ≠ w.heap.size + 1; omega) _).alloc _
    have hB1 : Blk W1 b 66 #[.map (some m), .int .u64 last] := HB.out.upd hu1 id
    have hO1 : W1.ownsMap Try.prog 28 oR m M.length D := owns_upd HO.out hu1 id
    have hbl := HB.out.lt
    have hml := HO.out.lt
    clear hcut c2 c3 f3 KS HB0 HI0 HU0 hsz
    clear W0
    obtain ⟨who2, hwho⟩ : ∃ x, (votedO ⟨slot, val, cfg, who⟩ n).who = x := ⟨_, rfl⟩
    rw [hwho] at hb1
    obtain ⟨M2, hM2⟩ : ∃ X, setM M (votedO ⟨slot, val, cfg, who⟩ n) = X := ⟨_, rfl⟩
    have HR2 : Hid (Reads (D.put (.int .u64 slot) (.held ⟨slot, val, cfg, who2⟩)) M2) := by rw [← hwho, ← hM2]; exact HR.out
    rw [hM2] at HRS
    have HWHO := Lib.hid hwho
    have HM2 := Lib.hid hM2
    clear hwho hM2 HR
    have c0 : W1.cell? ⟨b, 0, none⟩ = some (.map (some m)) := hB1.cell 0
    have d0 : W1.cell? ⟨w.heap.size + 1, 0, none⟩ = some (.int .u64 slot) := hb1.cell 0
    have d1 : W1.cell? ⟨w.heap.size + 1, 1, none⟩ = some (.string val) := hb1.cell 1
    have d2 : W1.cell? ⟨w.heap.size + 1, 2, none⟩ = some (.int .u8 cfg) := hb1.cell 2
    have d3 : W1.cell? ⟨w.heap.size + 1, 3, none⟩ = some (.int .u8 who2) := hb1.cell 3
    have HO1 := Lib.hid hO1
    have HB1 := Lib.hid hB1
    have HI1 := Lib.hid hi1
    have Hb1 := Lib.hid hb1
    have HU1 := Lib.hid hu1
    have HS1 := Lib.hid hs1
    clear hO1 hB1 hi1 hb1 hu1 hs1
    obtain ⟨w2, hrun2, hO2, ht2⟩ := HO1.out.drew.store keyedU Try.underlying64 (by unfold maxLen; omega) (keyU HW.out) (show oR (oVal ⟨slot, val, cfg, who2⟩) = some (.held ⟨slot, val, cfg, who2⟩, []) from rfl)
    unfold oVal at hrun2
    have HO2 := Lib.hid hO2
    have HT2 := Lib.hid ht2
    clear hO2 ht2
    go_wp2_with fail
    go_region
    clear hrun2 c0 d0 d1 d2 d3
    have hu2 : Upd (fun k => k = m) W1 w2 := ((Upd.refl _ W1).drew.trans (turned_upd HT2.out) (fun _ _ h => h))
    have hb2 := Hb1.out.upd hu2 (show ¬ w.heap.size + 1 = m by omega)
    have hi2 := HI1.out.upd hu2 (show ¬ w.heap.size = m by omega)
    have hB2 := HB1.out.upd hu2 HBM.out
    have hD2 : Dsk w2 (fun k => F k ∧ k < w.heap.size) (.pointer (some ⟨b, 0, none⟩)) M2 last := ⟨b, m, _, _, rfl, ⟨HF.out.1, hbl⟩, ⟨HF.out.2, hml⟩, hB2, HO2.out, HR2.out⟩
    have hU2 : Upd F w w2 := (HU1.out.mono (fun _ _ h => h.elim)).trans hu2 (fun _ _ h => by rw [h]; exact HF.out.2)
    have hs2 := hu2.size
    have d0 : w2.cell? ⟨w.heap.size + 1, 0, none⟩ = some (.int .u64 slot) := hb2.cell 0
    have d1 : w2.cell? ⟨w.heap.size + 1, 1, none⟩ = some (.string val) := hb2.cell 1
    have d2 : w2.cell? ⟨w.heap.size + 1, 2, none⟩ = some (.int .u8 cfg) := hb2.cell 2
    have d3 : w2.cell? ⟨w.heap.size + 1, 3, none⟩ = some (.int .u8 who2) := hb2.cell 3
    have Hb2 := Lib.hid hb2
    have HI2 := Lib.hid hi2
    have HD2 := Lib.hid hD2
    have HU2 := Lib.hid hU2
    clear hu2 hb2 hi2 hB2 hD2 hU2 HO1 HB1 HI1 Hb1 HU1 HO2 HT2 HR2
    go_wp2_with fail
    refine (pdec_any ⟨slot, val, cfg, who2⟩ w2).mono ?_
    rintro e w3 ⟨rfl, hu3⟩
    have hi3 := HI2.out.upd hu3 id
    have hb3 := Hb2.out.upd hu3 id
    have i0 : w3.cell? ⟨w.heap.size, 0, none⟩ = some (.int .u64 0) := hi3.cell 0
    have i1 : w3.cell? ⟨w.heap.size, 1, none⟩ = some (.string { data := #[] }) := hi3.cell 1
    have j0 : w3.frozen? ⟨w.heap.size, 0, none⟩ = false := hi3.frozen 0
    have j1 : w3.frozen? ⟨w.heap.size, 1, none⟩ = false := hi3.frozen 1
    have Hb3 := Lib.hid hb3
    have HI3 := Lib.hid hi3
    have HD3 := Lib.hid (HD2.out.upd hu3 (fun _ _ h => h))
    have HU3 := Lib.hid (HU2.out.trans hu3 (fun _ _ h => h.elim))
    have hs3 := hu3.size
    clear hu3 hi3 hb3 d0 d1 d2 d3
    cases hmaj : setMaj cfg who2
    · go_wp2_with fail
      have hB := (HI3.out.set_ 0 (.int .u64 0)).set_ 1 (.string { data := #[] })
      have q0 := hB.cell 0
      have q1 := hB.cell 1
      simp at q0 q1
      refine bodyPost_ret (v := .tuple #[.agg #[.int .u64 0, .string ByteArray.empty], .bool false]) (by simp [results, Try.results14, go_sem, q0, q1]; rfl) rfl (.inl ⟨by rw [HWHO.out]; exact hmaj, rfl, (HU3.out.setCell (.inr (Nat.le_refl _)) _).setCell (.inr (Nat.le_refl _)) _, ?_⟩)
      rw [HM2.out]
      exact (HD3.out.upd (G := fun k => k = w.heap.size) (Upd.setCell (F := fun k => k = w.heap.size) (Upd.setCell (F := fun k => k = w.heap.size) (Upd.refl _ _) (p := ⟨w.heap.size, 0, none⟩) (.inl rfl) _) (p := ⟨w.heap.size, 1, none⟩) (.inl rfl) _) (fun k hk h => by have := hk.2; omega)).more (fun k hk => hk.1)
    · go_wp2_with fail
      refine (pclose_any HD3.out HRS.out slot HW.out).mono ?_
      rintro e w4 ⟨rfl, hu4, hd4⟩
      have hi4 := HI3.out.upd hu4 (fun h => by have := h.2; omega)
      have hb4 := Hb3.out.upd hu4 (fun h => by have := h.2; omega)
      have HD4 := Lib.hid hd4
      have HU4 := Lib.hid (HU3.out.trans hu4 (fun _ _ h => h.1))
      clear i0 i1 j0 j1
      have i0 : w4.cell? ⟨w.heap.size, 0, none⟩ = some (.int .u64 0) := hi4.cell 0
      have i1 : w4.cell? ⟨w.heap.size, 1, none⟩ = some (.string { data := #[] }) := hi4.cell 1
      have j0 : w4.frozen? ⟨w.heap.size, 0, none⟩ = false := hi4.frozen 0
      have j1 : w4.frozen? ⟨w.heap.size, 1, none⟩ = false := hi4.frozen 1
      have k0 : w4.cell? ⟨w.heap.size + 1, 0, none⟩ = some (.int .u64 slot) := hb4.cell 0
      have k1 : w4.cell? ⟨w.heap.size + 1, 1, none⟩ = some (.string val) := hb4.cell 1
      have HI4 := Lib.hid hi4
      clear hu4 hd4 hi4 hb4
      go_wp2_with fail
      have hB := (HI4.out.set_ 0 (.int .u64 slot)).set_ 1 (.string val)
      have q0 := hB.cell 0
      have q1 := hB.cell 1
      simp at q0 q1
      refine bodyPost_ret (v := .tuple #[.agg #[.int .u64 slot, .string val], .bool true]) (by simp [results, Try.results14, go_sem, q0, q1]) rfl (.inr ⟨by rw [HWHO.out]; exact hmaj, rfl, (HU4.out.setCell (.inr (Nat.le_refl _)) _).setCell (.inr (Nat.le_refl _)) _, ?_⟩)
      rw [HM2.out]
      exact (HD4.out.upd (G := fun k => k = w.heap.size) (Upd.setCell (F := fun k => k = w.heap.size) (Upd.setCell (F := fun k => k = w.heap.size) (Upd.refl _ _) (p := ⟨w.heap.size, 0, none⟩) (.inl rfl) _) (p := ⟨w.heap.size, 1, none⟩) (.inl rfl) _) (fun k hk h => by have := hk.2; omega)).more (fun k hk => hk.1)

end Go.Proofs.Ytbnmildjamjjmaa
