/-
  The reference of layer 18: are two messages alike. Conditions: lists of at most 10^6, bytes.
-/
import Derived.Test.YtaielcokfpodaaaMsgJ
import Derived.Deep.QuietTactic
import Derived.BigQuiet
namespace Go.Proofs.Ytaielcokfpodaaa
open Go.RowKit

set_option maxRecDepth 100000 in
set_option maxHeartbeats 16000000 in
theorem rsame_any {w : World} {Ga Gb : Nat → Prop} (a b : Ms) (hwa : WfM a) (hwb : WfM b) {va ia vb ib : Value} (hla : Lists w Ga a va ia) (hlb : Lists w Gb b vb ib) :
    Calls Try.prog 11 #[msV a va ia, msV b vb ib] w fun e w' => e = .returned (.bool (decide (a = b))) ∧ Upd (fun _ => False) w w' := by
  obtain ⟨Av, cv, rfl, _, _⟩ := hla.votes.shape
  obtain ⟨Ai, ci, rfl, _, _⟩ := hla.items.shape
  obtain ⟨Bv, c1, rfl, _, _⟩ := hlb.votes.shape
  obtain ⟨Bi, c2, rfl, _, _⟩ := hlb.items.shape
  have HWA := Lib.hid hwa
  have HWB := Lib.hid hwb
  obtain ⟨R, hR⟩ : ∃ R, decide (a = b) = R := ⟨_, rfl⟩
  have HR := Lib.hid hR
  rw [hR]
  obtain ⟨hv1, hi1⟩ := hla
  obtain ⟨hv2, hi2⟩ := hlb
  have hln := And.intro (And.intro hwa.votes.1 hwb.votes.1) (And.intro hwa.items.1 hwb.items.1)
  clear hwa hwb hR
  obtain ⟨akind, abn, abr, abase, aslot, anode, aval, avotes, aitems, ⟨aclient, aseq, ackind, akey, aold, anew, acset⟩, acode, atext⟩ := a
  obtain ⟨bkind, bbn, bbr, bbase, bslot, bnode, bval, bvotes, bitems, ⟨bclient, bseq, bckind, bkey, bold, bnew, bcset⟩, bcode, btext⟩ := b
  unfold msV msCells
  dsimp only at hv1 hi1 hv2 hi2 hln ⊢
  obtain ⟨N1, hN1⟩ : ∃ N, avotes.length = N := ⟨_, rfl⟩
  obtain ⟨M1, hM1⟩ : ∃ N, bvotes.length = N := ⟨_, rfl⟩
  obtain ⟨N2, hN2⟩ : ∃ N, aitems.length = N := ⟨_, rfl⟩
  obtain ⟨M2, hM2⟩ : ∃ N, bitems.length = N := ⟨_, rfl⟩
  rw [hN1, hM1, hN2, hM2] at hln
  rw [hN1] at hv1 ⊢
  rw [hM1] at hv2 ⊢
  rw [hN2] at hi1 ⊢
  rw [hM2] at hi2 ⊢
  have HN1 := Lib.hid hN1
  have HM1 := Lib.hid hM1
  have HN2 := Lib.hid hN2
  have HM2 := Lib.hid hM2
  have HV1x := Lib.hid hv1
  have HV2x := Lib.hid hv2
  have HI1x := Lib.hid hi1
  have HI2x := Lib.hid hi2
  clear hv1 hv2 hi1 hi2 hN1 hM1 hN2 hM2
  by_cases e1 : N1 = M1
  case neg =>
    have hRf : R = false := by
      rw [← HR.out]
      refine decide_eq_false fun h => e1 ?_
      rw [← HN1.out, ← HM1.out]
      cases h
      rfl
    subst hRf
    have hd : ((N1 : Int) != (M1 : Int)) = true := bne_iff_ne.2 (by omega)
    clear e1
    go_enter Try.func11, Try.ntmps11
    go_wp2_with fail
    go_ret
    exact ⟨rfl, ((Upd.refl _ _).alloc _).alloc _⟩
  subst e1
  by_cases e2 : N2 = M2
  case neg =>
    have hRf : R = false := by
      rw [← HR.out]
      refine decide_eq_false fun h => e2 ?_
      rw [← HN2.out, ← HM2.out]
      cases h
      rfl
    subst hRf
    have hd : ((N2 : Int) != (M2 : Int)) = true := bne_iff_ne.2 (by omega)
    clear e2
    go_enter Try.func11, Try.ntmps11
    go_wp2_with fail
    go_ret
    exact ⟨rfl, ((Upd.refl _ _).alloc _).alloc _⟩
  subst e2
  have hn1 : (N1 : Int) ≤ 1000000 := by omega
  have hn2 : (N2 : Int) ≤ 1000000 := by omega
  clear hln
  go_enter Try.func11, Try.ntmps11
  go_upto_region 1 with fail
  have hb1 := (Blk.new w 34 #[.int .u8 akind, .int .u64 abn, .int .u8 abr, .int .u64 abase, .int .u64 aslot, .int .u8 anode, .string (strOfNums aval), .slice Av N1 cv, .slice Ai N2 ci, .int .u8 aclient, .int .u32 aseq, .int .u8 ackind, .string (strOfNums akey), .string (strOfNums aold), .string (strOfNums anew), .int .u8 acset, .int .u8 acode, .string (strOfNums atext)]).alloc (.cells #[.int .u8 bkind, .int .u64 bbn, .int .u8 bbr, .int .u64 bbase, .int .u64 bslot, .int .u8 bnode, .string (strOfNums bval), .slice Bv N1 c1, .slice Bi N2 c2, .int .u8 bclient, .int .u32 bseq, .int .u8 bckind, .string (strOfNums bkey), .string (strOfNums bold), .string (strOfNums bnew), .int .u8 bcset, .int .u8 bcode, .string (strOfNums btext)] 34)
  have hb2 := Blk.newAt (w.alloc (.cells #[.int .u8 akind, .int .u64 abn, .int .u8 abr, .int .u64 abase, .int .u64 aslot, .int .u8 anode, .string (strOfNums aval), .slice Av N1 cv, .slice Ai N2 ci, .int .u8 aclient, .int .u32 aseq, .int .u8 ackind, .string (strOfNums akey), .string (strOfNums aold), .string (strOfNums anew), .int .u8 acset, .int .u8 acode, .string (strOfNums atext)] 34)) (g := w.heap.size + 1) 34 #[.int .u8 bkind, .int .u64 bbn, .int .u8 bbr, .int .u64 bbase, .int .u64 bslot, .int .u8 bnode, .string (strOfNums bval), .slice Bv N1 c1, .slice Bi N2 c2, .int .u8 bclient, .int .u32 bseq, .int .u8 bckind, .string (strOfNums bkey), .string (strOfNums bold), .string (strOfNums bnew), .int .u8 bcset, .int .u8 bcode, .string (strOfNums btext)] (by simp)
  have hu0 : Upd (fun _ => False) w ((w.alloc (.cells #[.int .u8 akind, .int .u64 abn, .int .u8 abr, .int .u64 abase, .int .u64 aslot, .int .u8 anode, .string (strOfNums aval), .slice Av N1 cv, .slice Ai N2 ci, .int .u8 aclient, .int .u32 aseq, .int .u8 ackind, .string (strOfNums akey), .string (strOfNums aold), .string (strOfNums anew), .int .u8 acset, .int .u8 acode, .string (strOfNums atext)] 34)).alloc (.cells #[.int .u8 bkind, .int .u64 bbn, .int .u8 bbr, .int .u64 bbase, .int .u64 bslot, .int .u8 bnode, .string (strOfNums bval), .slice Bv N1 c1, .slice Bi N2 c2, .int .u8 bclient, .int .u32 bseq, .int .u8 bckind, .string (strOfNums bkey), .string (strOfNums bold), .string (strOfNums bnew), .int .u8 bcset, .int .u8 bcode, .string (strOfNums btext)] 34)) := ((Upd.refl _ _).alloc _).alloc _
  generalize (w.alloc (.cells #[.int .u8 akind, .int .u64 abn, .int .u8 abr, .int .u64 abase, .int .u64 aslot, .int .u8 anode, .string (strOfNums aval), .slice Av N1 cv, .slice Ai N2 ci, .int .u8 aclient, .int .u32 aseq, .int .u8 ackind, .string (strOfNums akey), .string (strOfNums aold), .string (strOfNums anew), .int .u8 acset, .int .u8 acode, .string (strOfNums atext)] 34)).alloc (.cells #[.int .u8 bkind, .int .u64 bbn, .int .u8 bbr, .int .u64 bbase, .int .u64 bslot, .int .u8 bnode, .string (strOfNums bval), .slice Bv N1 c1, .slice Bi N2 c2, .int .u8 bclient, .int .u32 bseq, .int .u8 bckind, .string (strOfNums bkey), .string (strOfNums bold), .string (strOfNums bnew), .int .u8 bcset, .int .u8 bcode, .string (strOfNums btext)] 34) = w0 at *
  have HB1 := Lib.hid hb1
  have HB2 := Lib.hid hb2
  have HU0 := Lib.hid hu0
  have HV1 := Lib.hid (HV1x.out.upd hu0 (fun _ _ h => h))
  have HV2 := Lib.hid (HV2x.out.upd hu0 (fun _ _ h => h))
  have HI1 := Lib.hid (HI1x.out.upd hu0 (fun _ _ h => h))
  have HI2 := Lib.hid (HI2x.out.upd hu0 (fun _ _ h => h))
  have y7 : w0.cell? ⟨w.heap.size, 7, none⟩ = some (.slice Av N1 cv) := hb1.cell 7
  have y8 : w0.cell? ⟨w.heap.size, 8, none⟩ = some (.slice Ai N2 ci) := hb1.cell 8
  have x7 : w0.cell? ⟨w.heap.size + 1, 7, none⟩ = some (.slice Bv N1 c1) := hb2.cell 7
  have x8 : w0.cell? ⟨w.heap.size + 1, 8, none⟩ = some (.slice Bi N2 c2) := hb2.cell 8
  clear hb1 hb2 hu0 HV1x HV2x HI1x HI2x
  go_wp2_with fail
  clear y7 y8 x7 x8
  go_loopw [5] (fun i wr => ∃ k : Nat, k ≤ N1 ∧ i = .int .i64 k ∧ avotes.take k = bvotes.take k ∧ Upd (fun _ => False) w0 wr) (fun i _ => N1 - (intOf i).toNat)
  case atStart => exact ⟨0, Nat.zero_le _, rfl, by simp, Upd.refl _ _⟩
  case round =>
    obtain ⟨k, hk, rfl, ht, hu⟩ := hrel
    have HT := Lib.hid ht
    have HU := Lib.hid hu
    clear ht
    have z1 : wr.cell? ⟨w.heap.size, 7, none⟩ = some (.slice Av N1 cv) := (HB1.out.upd hu id).cell 7
    have z2 : wr.cell? ⟨w.heap.size + 1, 7, none⟩ = some (.slice Bv N1 c1) := (HB2.out.upd hu id).cell 7
    by_cases hlt : k < N1
    · have hka : k < avotes.length := by rw [HN1.out]; exact hlt
      have hkb : k < bvotes.length := by rw [HM1.out]; exact hlt
      obtain ⟨b1, o1, rfl, hc1⟩ := HV1.out.row_ hu (fun _ _ h => h) hlt (vt_at avotes k hka) rfl
      obtain ⟨b2, o2, rfl, hc2⟩ := HV2.out.row_ hu (fun _ _ h => h) hlt (vt_at bvotes k hkb) rfl
      have hwa := HWA.out.votes.2 avotes[k] (List.getElem_mem hka)
      have hwb := HWB.out.votes.2 bvotes[k] (List.getElem_mem hkb)
      have hne := fun (h : avotes[k] ≠ bvotes[k]) => ne_of_at hka hkb h
      have heq := fun (h : avotes[k] = bvotes[k]) => take_eq_succ hka hkb HT.out h
      generalize avotes[k] = x at *
      generalize bvotes[k] = y at *
      obtain ⟨x0, x1, x2, x3⟩ := x
      obtain ⟨y0, y1, y2, y3⟩ := y
      have ex0 : wr.cell? ⟨b1, o1 + k * 4, none⟩ = some (.int .u64 x0) := hc1 0 _ rfl
      have ey0 : wr.cell? ⟨b2, o2 + k * 4, none⟩ = some (.int .u64 y0) := hc2 0 _ rfl
      have ex1 : wr.cell? ⟨b1, o1 + k * 4 + 1, none⟩ = some (.int .u64 x1) := hc1 1 _ rfl
      have ey1 : wr.cell? ⟨b2, o2 + k * 4 + 1, none⟩ = some (.int .u64 y1) := hc2 1 _ rfl
      have ex2 : wr.cell? ⟨b1, o1 + k * 4 + 2, none⟩ = some (.int .u8 x2) := hc1 2 _ rfl
      have ey2 : wr.cell? ⟨b2, o2 + k * 4 + 2, none⟩ = some (.int .u8 y2) := hc2 2 _ rfl
      have ex3 : wr.cell? ⟨b1, o1 + k * 4 + 3, none⟩ = some (.string (strOfNums x3)) := hc1 3 _ rfl
      have ey3 : wr.cell? ⟨b2, o2 + k * 4 + 3, none⟩ = some (.string (strOfNums y3)) := hc2 3 _ rfl
      have HNE := Lib.hid hne
      have HEQ := Lib.hid heq
      clear HWA HWB
      have HWA := Lib.hid hwa
      have HWB := Lib.hid hwb
      clear hc1 hc2 hne heq hwa hwb hu hka hkb
      by_cases d0 : x0 = y0
      case neg =>
        have hRf : R = false := by rw [← HR.out]; exact decide_eq_false (fun hh => HNE.out (by simp [d0]) (by cases hh; rfl))
        subst hRf
        have q0 : (x0 == y0) = false := beq_eq_false_iff_ne.2 d0
        clear d0
        go_wp2_with fail
        go_quiet (fail)
        go_wp2_with fail
        go_ret
        exact ⟨rfl, HU0.out.trans (HU.out.drewN _) (fun _ _ h => h)⟩
      subst d0
      by_cases d1 : x1 = y1
      case neg =>
        have hRf : R = false := by rw [← HR.out]; exact decide_eq_false (fun hh => HNE.out (by simp [d1]) (by cases hh; rfl))
        subst hRf
        have q1 : (x1 == y1) = false := beq_eq_false_iff_ne.2 d1
        clear d1
        go_wp2_with fail
        go_quiet (fail)
        go_wp2_with fail
        go_ret
        exact ⟨rfl, HU0.out.trans (HU.out.drewN _) (fun _ _ h => h)⟩
      subst d1
      by_cases d2 : x2 = y2
      case neg =>
        have hRf : R = false := by rw [← HR.out]; exact decide_eq_false (fun hh => HNE.out (by simp [d2]) (by cases hh; rfl))
        subst hRf
        have q2 : (x2 == y2) = false := beq_eq_false_iff_ne.2 d2
        clear d2
        go_wp2_with fail
        go_quiet (fail)
        go_wp2_with fail
        go_ret
        exact ⟨rfl, HU0.out.trans (HU.out.drewN _) (fun _ _ h => h)⟩
      subst d2
      by_cases d3 : x3 = y3
      case neg =>
        have hRf : R = false := by rw [← HR.out]; exact decide_eq_false (fun hh => HNE.out (by simp [d3]) (by cases hh; rfl))
        subst hRf
        have q3 := strTest HWA.out.val.1 HWB.out.val.1 d3
        dsimp only at q3
        have p3 : ((strOfNums x3).toList != (strOfNums y3).toList) = true := by rw [bne, q3]; rfl
        clear d3
        go_wp2_with fail
        go_quiet (fail)
        go_wp2_with fail
        go_ret
        exact ⟨rfl, HU0.out.trans (HU.out.drewN _) (fun _ _ h => h)⟩
      subst d3
      have HTK := Lib.hid (HEQ.out rfl)
      go_wp2_with fail
      go_quiet (fail)
      go_wp2_with fail
      go_roundw
      case rel => exact ⟨k + 1, by omega, by go_num, HTK.out, HU.out.drewN _⟩
      case measure => simp [intOf]; omega
    · have hke : k = N1 := by omega
      subst hke
      have he : avotes = bvotes := by
        have := HT.out
        rwa [List.take_of_length_le (by rw [HN1.out]; exact Nat.le_refl _), List.take_of_length_le (by rw [HM1.out]; exact Nat.le_refl _)] at this
      subst he
      clear hk hlt
      obtain ⟨wo, rfl⟩ : ∃ wo : World, wo = wr := ⟨_, rfl⟩
      have HUo := HU
      clear HU hu
      go_wp2_with fail
      clear z1 z2
      go_loopw [6] (fun i wr => ∃ k : Nat, k ≤ N2 ∧ i = .int .i64 k ∧ aitems.take k = bitems.take k ∧ Upd (fun _ => False) w0 wr) (fun i _ => N2 - (intOf i).toNat)
      case atStart => exact ⟨0, Nat.zero_le _, rfl, by simp, HUo.out⟩
      case round =>
        obtain ⟨k, hk, rfl, ht, hu⟩ := hrel
        have HT := Lib.hid ht
        have HU := Lib.hid hu
        clear ht
        have z1 : wr.cell? ⟨w.heap.size, 8, none⟩ = some (.slice Ai N2 ci) := (HB1.out.upd hu id).cell 8
        have z2 : wr.cell? ⟨w.heap.size + 1, 8, none⟩ = some (.slice Bi N2 c2) := (HB2.out.upd hu id).cell 8
        by_cases hlt : k < N2
        · have hka : k < aitems.length := by rw [HN2.out]; exact hlt
          have hkb : k < bitems.length := by rw [HM2.out]; exact hlt
          obtain ⟨b1, o1, rfl, hc1⟩ := HI1.out.row_ hu (fun _ _ h => h) hlt (it_at aitems k hka) rfl
          obtain ⟨b2, o2, rfl, hc2⟩ := HI2.out.row_ hu (fun _ _ h => h) hlt (it_at bitems k hkb) rfl
          have hwa := HWA.out.items.2 aitems[k] (List.getElem_mem hka)
          have hwb := HWB.out.items.2 bitems[k] (List.getElem_mem hkb)
          have hne := fun (h : aitems[k] ≠ bitems[k]) => ne_of_at hka hkb h
          have heq := fun (h : aitems[k] = bitems[k]) => take_eq_succ hka hkb HT.out h
          generalize aitems[k] = x at *
          generalize bitems[k] = y at *
          obtain ⟨x0, x1⟩ := x
          obtain ⟨y0, y1⟩ := y
          have ex0 : wr.cell? ⟨b1, o1 + k * 2, none⟩ = some (.int .u64 x0) := hc1 0 _ rfl
          have ey0 : wr.cell? ⟨b2, o2 + k * 2, none⟩ = some (.int .u64 y0) := hc2 0 _ rfl
          have ex1 : wr.cell? ⟨b1, o1 + k * 2 + 1, none⟩ = some (.string (strOfNums x1)) := hc1 1 _ rfl
          have ey1 : wr.cell? ⟨b2, o2 + k * 2 + 1, none⟩ = some (.string (strOfNums y1)) := hc2 1 _ rfl
          have HNE := Lib.hid hne
          have HEQ := Lib.hid heq
          clear HWA HWB
          have HWA := Lib.hid hwa
          have HWB := Lib.hid hwb
          clear hc1 hc2 hne heq hwa hwb hu hka hkb
          by_cases d0 : x0 = y0
          case neg =>
            have hRf : R = false := by rw [← HR.out]; exact decide_eq_false (fun hh => HNE.out (by simp [d0]) (by cases hh; rfl))
            subst hRf
            have q0 : (x0 == y0) = false := beq_eq_false_iff_ne.2 d0
            clear d0
            go_wp2_with fail
            go_quiet (fail)
            go_wp2_with fail
            go_ret
            exact ⟨rfl, HU0.out.trans (HU.out.drewN _) (fun _ _ h => h)⟩
          subst d0
          by_cases d1 : x1 = y1
          case neg =>
            have hRf : R = false := by rw [← HR.out]; exact decide_eq_false (fun hh => HNE.out (by simp [d1]) (by cases hh; rfl))
            subst hRf
            have q1 := strTest HWA.out.val.1 HWB.out.val.1 d1
            dsimp only at q1
            have p1 : ((strOfNums x1).toList != (strOfNums y1).toList) = true := by rw [bne, q1]; rfl
            clear d1
            go_wp2_with fail
            go_quiet (fail)
            go_wp2_with fail
            go_ret
            exact ⟨rfl, HU0.out.trans (HU.out.drewN _) (fun _ _ h => h)⟩
          subst d1
          have HTK := Lib.hid (HEQ.out rfl)
          go_wp2_with fail
          go_quiet (fail)
          go_wp2_with fail
          go_roundw
          case rel => exact ⟨k + 1, by omega, by go_num, HTK.out, HU.out.drewN _⟩
          case measure => simp [intOf]; omega
        · have hke : k = N2 := by omega
          subst hke
          have he : aitems = bitems := by
            have := HT.out
            rwa [List.take_of_length_le (by rw [HN2.out]; exact Nat.le_refl _), List.take_of_length_le (by rw [HM2.out]; exact Nat.le_refl _)] at this
          subst he
          clear hk hlt hu
          have k0 : wr.cell? ⟨w.heap.size, 0, none⟩ = some (.int .u8 akind) := (HB1.out.upd HU.out id).cell 0
          have m0 : wr.cell? ⟨w.heap.size + 1, 0, none⟩ = some (.int .u8 bkind) := (HB2.out.upd HU.out id).cell 0
          by_cases d0 : akind = bkind
          case neg =>
            have hRf : R = false := by rw [← HR.out]; exact decide_eq_false (by simp [d0])
            subst hRf
            have q0 : (akind == bkind) = false := beq_eq_false_iff_ne.2 d0
            clear d0
            go_wp2_with fail
            go_ret
            exact ⟨rfl, HU0.out.trans HU.out (fun _ _ h => h)⟩
          subst d0
          have k1 : wr.cell? ⟨w.heap.size, 1, none⟩ = some (.int .u64 abn) := (HB1.out.upd HU.out id).cell 1
          have m1 : wr.cell? ⟨w.heap.size + 1, 1, none⟩ = some (.int .u64 bbn) := (HB2.out.upd HU.out id).cell 1
          have k2 : wr.cell? ⟨w.heap.size, 2, none⟩ = some (.int .u8 abr) := (HB1.out.upd HU.out id).cell 2
          have m2 : wr.cell? ⟨w.heap.size + 1, 2, none⟩ = some (.int .u8 bbr) := (HB2.out.upd HU.out id).cell 2
          by_cases d1 : abn = bbn
          case neg =>
            have hRf : R = false := by rw [← HR.out]; exact decide_eq_false (by simp [d1])
            subst hRf
            have q1 : (abn == bbn) = false := beq_eq_false_iff_ne.2 d1
            clear d1
            go_wp2_with fail
            go_ret
            exact ⟨rfl, HU0.out.trans HU.out (fun _ _ h => h)⟩
          subst d1
          by_cases d2 : abr = bbr
          case neg =>
            have hRf : R = false := by rw [← HR.out]; exact decide_eq_false (by simp [d2])
            subst hRf
            have q2 : (abr == bbr) = false := beq_eq_false_iff_ne.2 d2
            clear d2
            go_wp2_with fail
            go_ret
            exact ⟨rfl, HU0.out.trans HU.out (fun _ _ h => h)⟩
          subst d2
          have k3 : wr.cell? ⟨w.heap.size, 3, none⟩ = some (.int .u64 abase) := (HB1.out.upd HU.out id).cell 3
          have m3 : wr.cell? ⟨w.heap.size + 1, 3, none⟩ = some (.int .u64 bbase) := (HB2.out.upd HU.out id).cell 3
          by_cases d3 : abase = bbase
          case neg =>
            have hRf : R = false := by rw [← HR.out]; exact decide_eq_false (by simp [d3])
            subst hRf
            have q3 : (abase == bbase) = false := beq_eq_false_iff_ne.2 d3
            clear d3
            go_wp2_with fail
            go_ret
            exact ⟨rfl, HU0.out.trans HU.out (fun _ _ h => h)⟩
          subst d3
          have k4 : wr.cell? ⟨w.heap.size, 4, none⟩ = some (.int .u64 aslot) := (HB1.out.upd HU.out id).cell 4
          have m4 : wr.cell? ⟨w.heap.size + 1, 4, none⟩ = some (.int .u64 bslot) := (HB2.out.upd HU.out id).cell 4
          by_cases d4 : aslot = bslot
          case neg =>
            have hRf : R = false := by rw [← HR.out]; exact decide_eq_false (by simp [d4])
            subst hRf
            have q4 : (aslot == bslot) = false := beq_eq_false_iff_ne.2 d4
            clear d4
            go_wp2_with fail
            go_ret
            exact ⟨rfl, HU0.out.trans HU.out (fun _ _ h => h)⟩
          subst d4
          have k5 : wr.cell? ⟨w.heap.size, 5, none⟩ = some (.int .u8 anode) := (HB1.out.upd HU.out id).cell 5
          have m5 : wr.cell? ⟨w.heap.size + 1, 5, none⟩ = some (.int .u8 bnode) := (HB2.out.upd HU.out id).cell 5
          by_cases d5 : anode = bnode
          case neg =>
            have hRf : R = false := by rw [← HR.out]; exact decide_eq_false (by simp [d5])
            subst hRf
            have q5 : (anode == bnode) = false := beq_eq_false_iff_ne.2 d5
            clear d5
            go_wp2_with fail
            go_ret
            exact ⟨rfl, HU0.out.trans HU.out (fun _ _ h => h)⟩
          subst d5
          have k6 : wr.cell? ⟨w.heap.size, 6, none⟩ = some (.string (strOfNums aval)) := (HB1.out.upd HU.out id).cell 6
          have m6 : wr.cell? ⟨w.heap.size + 1, 6, none⟩ = some (.string (strOfNums bval)) := (HB2.out.upd HU.out id).cell 6
          by_cases d6 : aval = bval
          case neg =>
            have hRf : R = false := by rw [← HR.out]; exact decide_eq_false (by simp [d6])
            subst hRf
            have q6 := strTest HWA.out.val.1 HWB.out.val.1 d6
            dsimp only at q6
            clear d6
            go_wp2_with fail
            go_ret
            exact ⟨rfl, HU0.out.trans HU.out (fun _ _ h => h)⟩
          subst d6
          have k9 : wr.cell? ⟨w.heap.size, 9, none⟩ = some (.int .u8 aclient) := (HB1.out.upd HU.out id).cell 9
          have m9 : wr.cell? ⟨w.heap.size + 1, 9, none⟩ = some (.int .u8 bclient) := (HB2.out.upd HU.out id).cell 9
          have k10 : wr.cell? ⟨w.heap.size, 10, none⟩ = some (.int .u32 aseq) := (HB1.out.upd HU.out id).cell 10
          have m10 : wr.cell? ⟨w.heap.size + 1, 10, none⟩ = some (.int .u32 bseq) := (HB2.out.upd HU.out id).cell 10
          have k11 : wr.cell? ⟨w.heap.size, 11, none⟩ = some (.int .u8 ackind) := (HB1.out.upd HU.out id).cell 11
          have m11 : wr.cell? ⟨w.heap.size + 1, 11, none⟩ = some (.int .u8 bckind) := (HB2.out.upd HU.out id).cell 11
          have k12 : wr.cell? ⟨w.heap.size, 12, none⟩ = some (.string (strOfNums akey)) := (HB1.out.upd HU.out id).cell 12
          have m12 : wr.cell? ⟨w.heap.size + 1, 12, none⟩ = some (.string (strOfNums bkey)) := (HB2.out.upd HU.out id).cell 12
          have k13 : wr.cell? ⟨w.heap.size, 13, none⟩ = some (.string (strOfNums aold)) := (HB1.out.upd HU.out id).cell 13
          have m13 : wr.cell? ⟨w.heap.size + 1, 13, none⟩ = some (.string (strOfNums bold)) := (HB2.out.upd HU.out id).cell 13
          have k14 : wr.cell? ⟨w.heap.size, 14, none⟩ = some (.string (strOfNums anew)) := (HB1.out.upd HU.out id).cell 14
          have m14 : wr.cell? ⟨w.heap.size + 1, 14, none⟩ = some (.string (strOfNums bnew)) := (HB2.out.upd HU.out id).cell 14
          have k15 : wr.cell? ⟨w.heap.size, 15, none⟩ = some (.int .u8 acset) := (HB1.out.upd HU.out id).cell 15
          have m15 : wr.cell? ⟨w.heap.size + 1, 15, none⟩ = some (.int .u8 bcset) := (HB2.out.upd HU.out id).cell 15
          by_cases d9 : aclient = bclient
          case neg =>
            have hRf : R = false := by rw [← HR.out]; exact decide_eq_false (by simp [d9])
            subst hRf
            have q9 : (aclient == bclient) = false := beq_eq_false_iff_ne.2 d9
            clear d9
            go_wp2_with fail
            go_ret
            exact ⟨rfl, HU0.out.trans HU.out (fun _ _ h => h)⟩
          subst d9
          by_cases d10 : aseq = bseq
          case neg =>
            have hRf : R = false := by rw [← HR.out]; exact decide_eq_false (by simp [d10])
            subst hRf
            have q10 : (aseq == bseq) = false := beq_eq_false_iff_ne.2 d10
            clear d10
            go_wp2_with fail
            go_ret
            exact ⟨rfl, HU0.out.trans HU.out (fun _ _ h => h)⟩
          subst d10
          by_cases d11 : ackind = bckind
          case neg =>
            have hRf : R = false := by rw [← HR.out]; exact decide_eq_false (by simp [d11])
            subst hRf
            have q11 : (ackind == bckind) = false := beq_eq_false_iff_ne.2 d11
            clear d11
            go_wp2_with fail
            go_ret
            exact ⟨rfl, HU0.out.trans HU.out (fun _ _ h => h)⟩
          subst d11
          by_cases d12 : akey = bkey
          case neg =>
            have hRf : R = false := by rw [← HR.out]; exact decide_eq_false (by simp [d12])
            subst hRf
            have q12 := strTest HWA.out.cmd.key HWB.out.cmd.key d12
            dsimp only at q12
            clear d12
            go_wp2_with fail
            go_ret
            exact ⟨rfl, HU0.out.trans HU.out (fun _ _ h => h)⟩
          subst d12
          by_cases d13 : aold = bold
          case neg =>
            have hRf : R = false := by rw [← HR.out]; exact decide_eq_false (by simp [d13])
            subst hRf
            have q13 := strTest HWA.out.cmd.old HWB.out.cmd.old d13
            dsimp only at q13
            clear d13
            go_wp2_with fail
            go_ret
            exact ⟨rfl, HU0.out.trans HU.out (fun _ _ h => h)⟩
          subst d13
          by_cases d14 : anew = bnew
          case neg =>
            have hRf : R = false := by rw [← HR.out]; exact decide_eq_false (by simp [d14])
            subst hRf
            have q14 := strTest HWA.out.cmd.new HWB.out.cmd.new d14
            dsimp only at q14
            clear d14
            go_wp2_with fail
            go_ret
            exact ⟨rfl, HU0.out.trans HU.out (fun _ _ h => h)⟩
          subst d14
          by_cases d15 : acset = bcset
          case neg =>
            have hRf : R = false := by rw [← HR.out]; exact decide_eq_false (by simp [d15])
            subst hRf
            have q15 : (acset == bcset) = false := beq_eq_false_iff_ne.2 d15
            clear d15
            go_wp2_with fail
            go_ret
            exact ⟨rfl, HU0.out.trans HU.out (fun _ _ h => h)⟩
          subst d15
          have k16 : wr.cell? ⟨w.heap.size, 16, none⟩ = some (.int .u8 acode) := (HB1.out.upd HU.out id).cell 16
          have m16 : wr.cell? ⟨w.heap.size + 1, 16, none⟩ = some (.int .u8 bcode) := (HB2.out.upd HU.out id).cell 16
          have k17 : wr.cell? ⟨w.heap.size, 17, none⟩ = some (.string (strOfNums atext)) := (HB1.out.upd HU.out id).cell 17
          have m17 : wr.cell? ⟨w.heap.size + 1, 17, none⟩ = some (.string (strOfNums btext)) := (HB2.out.upd HU.out id).cell 17
          by_cases d16 : acode = bcode
          case neg =>
            have hRf : R = false := by rw [← HR.out]; exact decide_eq_false (by simp [d16])
            subst hRf
            have q16 : (acode == bcode) = false := beq_eq_false_iff_ne.2 d16
            clear d16
            go_wp2_with fail
            go_ret
            exact ⟨rfl, HU0.out.trans HU.out (fun _ _ h => h)⟩
          subst d16
          by_cases d17 : atext = btext
          case neg =>
            have hRf : R = false := by rw [← HR.out]; exact decide_eq_false (by simp [d17])
            subst hRf
            have q17 := strTest HWA.out.text HWB.out.text d17
            dsimp only at q17
            clear d17
            go_wp2_with fail
            go_ret
            exact ⟨rfl, HU0.out.trans HU.out (fun _ _ h => h)⟩
          subst d17
          have hRt : R = true := by rw [← HR.out]; exact decide_eq_true rfl
          subst hRt
          go_wp2_with fail
          go_ret
          exact ⟨rfl, HU0.out.trans HU.out (fun _ _ h => h)⟩
end Go.Proofs.Ytaielcokfpodaaa
