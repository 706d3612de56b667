/-
  Layer 18, messages: are two alike. Conditions: lists of at most 10^6, bytes.
-/
import Derived.Test.YtaielcokfpodaaaMsgI
namespace Go.Proofs.Ytaielcokfpodaaa
open Go.RowKit

/-- A message's lists are readable. -/
structure Lists (w : World) (G : Nat → Prop) (m : Ms) (vv vi : Value) : Prop where
  votes : Sl w G 4 vv m.votes.length (m.votes.flatMap vtCells)
  items : Sl w G 2 vi m.items.length (m.items.flatMap itCells)
theorem Lists.upd {w w' : World} {F G : Nat → Prop} {m : Ms} {vv vi : Value} (h : Lists w G m vv vi) (hu : Upd F w w') (hd : ∀ k, G k → ¬ F k) : Lists w' G m vv vi := ⟨h.votes.upd hu hd, h.items.upd hu hd⟩
theorem Lists.more {w : World} {F G : Nat → Prop} {m : Ms} {vv vi : Value} (h : Lists w G m vv vi) (hd : ∀ k, G k → F k) : Lists w F m vv vi := ⟨h.votes.more hd, h.items.more hd⟩

set_option maxRecDepth 100000 in
set_option maxHeartbeats 16000000 in
theorem msame_any {w : World} {Ga Gb : Nat → Prop} (a b : Ms) (hwa : WfM a) (hwb : WfM b) (Av Ai Bv Bi : Option Addr) (nv cv ni ci n1 c1 n2 c2 : Nat) (hla : Lists w Ga a (.slice Av nv cv) (.slice Ai ni ci)) (hlb : Lists w Gb b (.slice Bv n1 c1) (.slice Bi n2 c2)) :
    Calls Try.prog 19 #[msV a (.slice Av nv cv) (.slice Ai ni ci), msV b (.slice Bv n1 c1) (.slice Bi n2 c2)] w fun e w' => e = .returned (.bool (decide (a = b))) ∧ Upd (fun _ => False) w w' := by
  have HEV := Lib.hid (fun (wx : World) (hu : Upd (fun _ => False) w wx) => vo_eq (hla.votes.upd hu (fun _ _ h => h)) (hlb.votes.upd hu (fun _ _ h => h)) ⟨hwa.votes.1, hwb.votes.1⟩ hwa.votes.2 hwb.votes.2)
  have HEI := Lib.hid (fun (wx : World) (hu : Upd (fun _ => False) w wx) => it_eq (hla.items.upd hu (fun _ _ h => h)) (hlb.items.upd hu (fun _ _ h => h)) ⟨hwa.items.1, hwb.items.1⟩ hwa.items.2 hwb.items.2)
  have HWA := Lib.hid hwa
  have HWB := Lib.hid hwb
  obtain ⟨R, hR⟩ : ∃ R, decide (a = b) = R := ⟨_, rfl⟩
  have HR := Lib.hid hR
  rw [hR]
  clear hla hlb hwa hwb hR
  obtain ⟨akind, abn, abr, abase, aslot, anode, aval, avotes, aitems, ⟨aclient, aseq, ackind, akey, aold, anew, acset⟩, acode, atext⟩ := a
  obtain ⟨bkind, bbn, bbr, bbase, bslot, bnode, bval, bvotes, bitems, ⟨bclient, bseq, bckind, bkey, bold, bnew, bcset⟩, bcode, btext⟩ := b
  unfold msV msCells
  dsimp only at HEV HEI ⊢
  by_cases d0 : akind = bkind
  case neg =>
    have hRf : R = false := by rw [← HR.out]; exact decide_eq_false (by simp [d0])
    subst hRf
    have q0 : (akind == bkind) = false := beq_eq_false_iff_ne.2 d0
    clear d0
    go_enter Try.func19, Try.ntmps19
    go_wp2_with fail
    go_ret
    exact ⟨rfl, ((Upd.refl _ _).alloc _).alloc _⟩
  subst d0
  by_cases d1 : abn = bbn
  case neg =>
    have hRf : R = false := by rw [← HR.out]; exact decide_eq_false (by simp [d1])
    subst hRf
    have q1 : (abn == bbn) = false := beq_eq_false_iff_ne.2 d1
    clear d1
    go_enter Try.func19, Try.ntmps19
    go_wp2_with fail
    go_ret
    exact ⟨rfl, ((Upd.refl _ _).alloc _).alloc _⟩
  subst d1
  by_cases d2 : abr = bbr
  case neg =>
    have hRf : R = false := by rw [← HR.out]; exact decide_eq_false (by simp [d2])
    subst hRf
    have q2 : (abr == bbr) = false := beq_eq_false_iff_ne.2 d2
    clear d2
    go_enter Try.func19, Try.ntmps19
    go_wp2_with fail
    go_ret
    exact ⟨rfl, ((Upd.refl _ _).alloc _).alloc _⟩
  subst d2
  by_cases d3 : abase = bbase
  case neg =>
    have hRf : R = false := by rw [← HR.out]; exact decide_eq_false (by simp [d3])
    subst hRf
    have q3 : (abase == bbase) = false := beq_eq_false_iff_ne.2 d3
    clear d3
    go_enter Try.func19, Try.ntmps19
    go_wp2_with fail
    go_ret
    exact ⟨rfl, ((Upd.refl _ _).alloc _).alloc _⟩
  subst d3
  by_cases d4 : aslot = bslot
  case neg =>
    have hRf : R = false := by rw [← HR.out]; exact decide_eq_false (by simp [d4])
    subst hRf
    have q4 : (aslot == bslot) = false := beq_eq_false_iff_ne.2 d4
    clear d4
    go_enter Try.func19, Try.ntmps19
    go_wp2_with fail
    go_ret
    exact ⟨rfl, ((Upd.refl _ _).alloc _).alloc _⟩
  subst d4
  by_cases d5 : anode = bnode
  case neg =>
    have hRf : R = false := by rw [← HR.out]; exact decide_eq_false (by simp [d5])
    subst hRf
    have q5 : (anode == bnode) = false := beq_eq_false_iff_ne.2 d5
    clear d5
    go_enter Try.func19, Try.ntmps19
    go_wp2_with fail
    go_ret
    exact ⟨rfl, ((Upd.refl _ _).alloc _).alloc _⟩
  subst d5
  by_cases d6 : aval = bval
  case neg =>
    have hRf : R = false := by rw [← HR.out]; exact decide_eq_false (by simp [d6])
    subst hRf
    have q6 := strTest HWA.out.val.1 HWB.out.val.1 d6
    dsimp only at q6
    clear d6
    go_enter Try.func19, Try.ntmps19
    go_wp2_with fail
    go_ret
    exact ⟨rfl, ((Upd.refl _ _).alloc _).alloc _⟩
  subst d6
  by_cases d9 : aclient = bclient
  case neg =>
    have hRf : R = false := by rw [← HR.out]; exact decide_eq_false (by simp [d9])
    subst hRf
    have q9 : (aclient == bclient) = false := beq_eq_false_iff_ne.2 d9
    clear d9
    go_enter Try.func19, Try.ntmps19
    go_wp2_with fail
    go_ret
    exact ⟨rfl, ((Upd.refl _ _).alloc _).alloc _⟩
  subst d9
  by_cases d10 : aseq = bseq
  case neg =>
    have hRf : R = false := by rw [← HR.out]; exact decide_eq_false (by simp [d10])
    subst hRf
    have q10 : (aseq == bseq) = false := beq_eq_false_iff_ne.2 d10
    clear d10
    go_enter Try.func19, Try.ntmps19
    go_wp2_with fail
    go_ret
    exact ⟨rfl, ((Upd.refl _ _).alloc _).alloc _⟩
  subst d10
  by_cases d11 : ackind = bckind
  case neg =>
    have hRf : R = false := by rw [← HR.out]; exact decide_eq_false (by simp [d11])
    subst hRf
    have q11 : (ackind == bckind) = false := beq_eq_false_iff_ne.2 d11
    clear d11
    go_enter Try.func19, Try.ntmps19
    go_wp2_with fail
    go_ret
    exact ⟨rfl, ((Upd.refl _ _).alloc _).alloc _⟩
  subst d11
  by_cases d12 : akey = bkey
  case neg =>
    have hRf : R = false := by rw [← HR.out]; exact decide_eq_false (by simp [d12])
    subst hRf
    have q12 := strTest HWA.out.cmd.key HWB.out.cmd.key d12
    dsimp only at q12
    clear d12
    go_enter Try.func19, Try.ntmps19
    go_wp2_with fail
    go_ret
    exact ⟨rfl, ((Upd.refl _ _).alloc _).alloc _⟩
  subst d12
  by_cases d13 : aold = bold
  case neg =>
    have hRf : R = false := by rw [← HR.out]; exact decide_eq_false (by simp [d13])
    subst hRf
    have q13 := strTest HWA.out.cmd.old HWB.out.cmd.old d13
    dsimp only at q13
    clear d13
    go_enter Try.func19, Try.ntmps19
    go_wp2_with fail
    go_ret
    exact ⟨rfl, ((Upd.refl _ _).alloc _).alloc _⟩
  subst d13
  by_cases d14 : anew = bnew
  case neg =>
    have hRf : R = false := by rw [← HR.out]; exact decide_eq_false (by simp [d14])
    subst hRf
    have q14 := strTest HWA.out.cmd.new HWB.out.cmd.new d14
    dsimp only at q14
    clear d14
    go_enter Try.func19, Try.ntmps19
    go_wp2_with fail
    go_ret
    exact ⟨rfl, ((Upd.refl _ _).alloc _).alloc _⟩
  subst d14
  by_cases d15 : acset = bcset
  case neg =>
    have hRf : R = false := by rw [← HR.out]; exact decide_eq_false (by simp [d15])
    subst hRf
    have q15 : (acset == bcset) = false := beq_eq_false_iff_ne.2 d15
    clear d15
    go_enter Try.func19, Try.ntmps19
    go_wp2_with fail
    go_ret
    exact ⟨rfl, ((Upd.refl _ _).alloc _).alloc _⟩
  subst d15
  by_cases d16 : acode = bcode
  case neg =>
    have hRf : R = false := by rw [← HR.out]; exact decide_eq_false (by simp [d16])
    subst hRf
    have q16 : (acode == bcode) = false := beq_eq_false_iff_ne.2 d16
    clear d16
    go_enter Try.func19, Try.ntmps19
    go_wp2_with fail
    go_ret
    exact ⟨rfl, ((Upd.refl _ _).alloc _).alloc _⟩
  subst d16
  by_cases d17 : atext = btext
  case neg =>
    have hRf : R = false := by rw [← HR.out]; exact decide_eq_false (by simp [d17])
    subst hRf
    have q17 := strTest HWA.out.text HWB.out.text d17
    dsimp only at q17
    clear d17
    go_enter Try.func19, Try.ntmps19
    go_wp2_with fail
    go_ret
    exact ⟨rfl, ((Upd.refl _ _).alloc _).alloc _⟩
  subst d17
  obtain ⟨R1, hR1⟩ : ∃ R, decide (avotes = bvotes) = R := ⟨_, rfl⟩
  obtain ⟨R2, hR2⟩ : ∃ R, decide (aitems = bitems) = R := ⟨_, rfl⟩
  have HRR : Hid (R = (R1 && R2)) := by
    show _ = _
    rw [← HR.out, ← hR1, ← hR2]
    simp
  rw [hR1] at HEV
  rw [hR2] at HEI
  clear hR1 hR2
  go_enter Try.func19, Try.ntmps19
  go_wp2_with fail
  refine (HEV.out _ (((Upd.refl _ w).alloc _).alloc _)).mono ?_
  rintro e w1 ⟨rfl, hu1⟩
  have HU1 := Lib.hid ((((Upd.refl (fun _ => False) w).alloc _).alloc _).trans hu1 (fun _ _ h => h))
  have hb1 := ((Blk.new w 34 #[.int .u8 akind, .int .u64 abn, .int .u8 abr, .int .u64 abase, .int .u64 aslot, .int .u8 anode, .string (strOfNums aval), .slice Av nv cv, .slice Ai ni ci, .int .u8 aclient, .int .u32 aseq, .int .u8 ackind, .string (strOfNums akey), .string (strOfNums aold), .string (strOfNums anew), .int .u8 acset, .int .u8 acode, .string (strOfNums atext)]).alloc (.cells #[.int .u8 akind, .int .u64 abn, .int .u8 abr, .int .u64 abase, .int .u64 aslot, .int .u8 anode, .string (strOfNums aval), .slice Bv n1 c1, .slice Bi n2 c2, .int .u8 aclient, .int .u32 aseq, .int .u8 ackind, .string (strOfNums akey), .string (strOfNums aold), .string (strOfNums anew), .int .u8 acset, .int .u8 acode, .string (strOfNums atext)] 34)).upd hu1 id
  have hb2 := (Blk.newAt (w.alloc (.cells #[.int .u8 akind, .int .u64 abn, .int .u8 abr, .int .u64 abase, .int .u64 aslot, .int .u8 anode, .string (strOfNums aval), .slice Av nv cv, .slice Ai ni ci, .int .u8 aclient, .int .u32 aseq, .int .u8 ackind, .string (strOfNums akey), .string (strOfNums aold), .string (strOfNums anew), .int .u8 acset, .int .u8 acode, .string (strOfNums atext)] 34)) (g := w.heap.size + 1) 34 #[.int .u8 akind, .int .u64 abn, .int .u8 abr, .int .u64 abase, .int .u64 aslot, .int .u8 anode, .string (strOfNums aval), .slice Bv n1 c1, .slice Bi n2 c2, .int .u8 aclient, .int .u32 aseq, .int .u8 ackind, .string (strOfNums akey), .string (strOfNums aold), .string (strOfNums anew), .int .u8 acset, .int .u8 acode, .string (strOfNums atext)] (by simp)).upd hu1 id
  have k8 : w1.cell? ⟨w.heap.size, 8, none⟩ = some (.slice Ai ni ci) := hb1.cell 8
  have m8 : w1.cell? ⟨w.heap.size + 1, 8, none⟩ = some (.slice Bi n2 c2) := hb2.cell 8
  clear hu1 hb1 hb2
  cases R1
  · go_wp2_with fail
    go_ret
    exact ⟨ret_bool (by rw [HRR.out]; rfl), HU1.out⟩
  · go_wp2_with fail
    refine (HEI.out _ HU1.out).mono ?_
    rintro e w2 ⟨rfl, hu2⟩
    have HU2 := Lib.hid (HU1.out.trans hu2 (fun _ _ h => h))
    clear hu2
    go_wp2_with fail
    go_ret
    exact ⟨ret_bool (by rw [HRR.out]; rfl), HU2.out⟩
end Go.Proofs.Ytaielcokfpodaaa
