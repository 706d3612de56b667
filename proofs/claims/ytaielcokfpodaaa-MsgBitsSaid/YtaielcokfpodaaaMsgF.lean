/-
  Layer 18, messages: what takes votes and items. Conditions: at most 10^9 bytes and elements.
-/
import Derived.Test.YtaielcokfpodaaaMsgE
import Derived.Deep.DeepCutAuto
namespace Go.Proofs.Ytaielcokfpodaaa
open Go.RowKit

theorem infoVote : (Try.prog.info? 47).map (fun i => (i.zero, i.size, i.bytes)) = some (some (.agg #[.int .u64 0, .int .u64 0, .int .u8 0, .string ByteArray.empty]), 4, 40) := by kernel_rfl
theorem infoItem : (Try.prog.info? 49).map (fun i => (i.zero, i.size, i.bytes)) = some (some (.agg #[.int .u64 0, .string ByteArray.empty]), 2, 24) := by kernel_rfl
theorem vtCells_one (v : Vt) : ∀ u ∈ vtCells v, u.oneCell' = true := by
  intro u hu
  simp only [vtCells, List.mem_cons, List.not_mem_nil, or_false] at hu
  rcases hu with rfl | rfl | rfl | rfl <;> rfl
theorem itCells_one (v : It) : ∀ u ∈ itCells v, u.oneCell' = true := by
  intro u hu
  simp only [itCells, List.mem_cons, List.not_mem_nil, or_false] at hu
  rcases hu with rfl | rfl <;> rfl
theorem vt_cost0 {s : Rs} (hs : RdOk s) (h : (pVt s).2.2 = 0) : (pVt s).2.1.length + 1 ≤ s.1.length := by
  rcases hv : pVt s with ⟨v, l', e⟩
  rw [hv] at h
  simp only at h
  subst h
  rw [pVt_ok hv hs]
  have h1 := numE_len v.slot.toNat
  unfold vtBy
  simp only [List.length_append]
  omega
theorem it_cost0 {s : Rs} (hs : RdOk s) (h : (pIt s).2.2 = 0) : (pIt s).2.1.length + 1 ≤ s.1.length := by
  rcases hv : pIt s with ⟨v, l', e⟩
  rw [hv] at h
  simp only at h
  subst h
  rw [pIt_ok hv hs]
  have h1 := numE_len v.slot.toNat
  unfold itBy
  simp only [List.length_append]
  omega
/-- One element in a block of its own. -/
theorem Sl.blkOne {w : World} {g : Nat} {t : TypeId} {cs : Array Value} {size : Nat} (h : Blk w g t cs) (hn : cs.size = size) : Sl w (fun k => k = g) size (.slice (some ⟨g, 0, none⟩) 1 1) 1 cs.toList :=
  ⟨by simp [hn], _, 1, rfl, Nat.le_refl _, by simp [maxLen], (fun h => by cases h), fun _ => ⟨g, 0, rfl, rfl, h.lt, fun j u hu => by
    rw [h.cell, Nat.zero_add, ← Array.getElem?_toList]; exact hu⟩⟩
theorem row_form_ {w : World} {e : TypeId} {size : Nat} {v : Value} {n : Nat} {xs : List Value} (h : w.ownsRow 0 e size v n xs) : ∃ A c, v = .slice A n c ∧ n ≤ c ∧ c ≤ maxLen := by
  rcases h.2 with ⟨rfl, rfl⟩ | ⟨g, cap, cur, rfl, _, _, h1, h2, _⟩
  · exact ⟨none, 0, rfl, Nat.le_refl _, by simp [maxLen]⟩
  · exact ⟨_, _, rfl, h1, h2⟩

/-- The loop that takes votes. -/
def VtL (w : World) (b g : Nat) (m : Ms) (vv0 vi : Value) (R : List Vt × Rs) (k : Nat) (wr : World) : Prop :=
  ∃ (acc : List Vt) (s : Rs) (vv : Value), pVts k (acc, s) = R ∧ Rd wr b s ∧ RdOk s ∧ Gone s ∧ Blk wr g 34 (msCells { m with votes := acc } vv vi) ∧ wr.ownsRow 0 47 4 vv acc.length (acc.flatMap vtCells) ∧ Upd (fun j => j = b ∨ j = g ∨ vv0.ownBlock = some j) w wr ∧ (∀ j, vv.ownBlock = some j → vv0.ownBlock = some j ∨ w.heap.size ≤ j) ∧ (s.2 = 0 → acc.length + s.1.length ≤ 1000000000) ∧ acc.length + s.1.length ≤ 1000000001

set_option maxRecDepth 100000 in
set_option maxHeartbeats 4000000 in
theorem vo_take {w : World} {b g : Nat} {s : Rs} (hR : Rd w b s) (hs : RdOk s) (hgo : Gone s) (m : Ms) {vv : Value} {Ai : Option Addr} {ni ci : Nat} (hM : Blk w g 34 (msCells m vv (.slice Ai ni ci))) (hown : w.ownsRow 0 47 4 vv m.votes.length (m.votes.flatMap vtCells)) (hle : m.votes.length + s.1.length ≤ 1000000000) :
    Calls Try.prog 81 #[.pointer (some ⟨b, 0, none⟩), .pointer (some ⟨g, 0, none⟩)] w fun e w' => e = .returned (.tuple #[]) ∧ ∃ vv', Rd w' b (ptTake (m, s) .votes).2 ∧ Blk w' g 34 (msCells (ptTake (m, s) .votes).1 vv' (.slice Ai ni ci)) ∧ w'.ownsRow 0 47 4 vv' (ptTake (m, s) .votes).1.votes.length ((ptTake (m, s) .votes).1.votes.flatMap vtCells) ∧ Upd (fun j => j = b ∨ j = g ∨ vv.ownBlock = some j) w w' ∧ (∀ j, vv'.ownBlock = some j → vv.ownBlock = some j ∨ w.heap.size ≤ j) := by
  obtain ⟨i0, hi0, hz0, hz1, hz2⟩ := info_parts infoVote
  have HR := Lib.hid hR
  have HM := Lib.hid hM
  have HOWN := Lib.hid hown
  have HN := Lib.hid (fun (wx : World) (hx : Rd wx b s) => wrnum_any hx hs)
  have hno := hs.num
  have hgn := hgo.num
  have hnl : (pNum s).2.1.length ≤ s.1.length := by
    by_cases h : (pNum s).2.2 = 0
    · rcases hv : pNum s with ⟨x, l', e⟩
      rw [hv] at h
      simp only at h
      subst h
      rw [(pNumOk hv hs.1).1]
      simp
    · rw [hgn h]; simp
  have HLE : Hid (m.votes.length + (pNum s).2.1.length ≤ 1000000000) := by show _ ≤ _; omega
  unfold ptTake
  dsimp only
  generalize pNum s = r at *
  obtain ⟨n, s0⟩ := r
  dsimp only at HN hno hgn HLE ⊢
  obtain ⟨N, rfl⟩ : ∃ N : Nat, n = (N : Int) := ⟨n.toNat, by have := hno.2.1; omega⟩
  rw [Int.toNat_natCast]
  obtain ⟨R, hRR⟩ : ∃ R, pVts N (m.votes, s0) = R := ⟨_, rfl⟩
  have HRR := Lib.hid hRR
  rw [hRR]
  have HNO := Lib.hid hno.1
  have HGN := Lib.hid hgn
  have hN64 : N < 18446744073709551616 := by have := hno.2.2; omega
  have HN64 := Lib.hid hN64
  have hbg : b ≠ g := Blk.ne_ hR hM (by decide)
  have HBG := Lib.hid hbg
  have HERR := Lib.hid (fun (wx : World) (t : Rs) (hx : Rd wx b t) => werr_any hx)
  clear hR hs hgo hM hown hle hno hgn hnl hRR hN64 hbg
  go_enter Try.func81, Try.ntmps81
  go_wp2_with fail
  refine (HN.out _ HR.out).mono ?_
  rintro e w1 ⟨rfl, hto⟩
  have HT := Lib.hid hto
  clear hto
  go_wp2_with fail
  go_loopw [4] (fun x wr => ∃ k : Nat, x = .int .u64 k ∧ k < 18446744073709551616 ∧ VtL w b g m vv (.slice Ai ni ci) R k wr) (fun x _ => (intOf x).toNat)
  case atStart =>
    refine ⟨N, rfl, HN64.out, m.votes, s0, vv, HRR.out, HT.out.2, HNO.out, HGN.out, HM.out.upd HT.out.1 (fun e => HBG.out e.symm), own_upd HOWN.out HT.out.1 (fun j hj e => ?_), HT.out.1.mono (fun _ _ h => .inl h), fun j hj => .inl hj, fun _ => HLE.out, by have := HLE.out; omega⟩
    exact own_blk_ne HOWN.out HR.out (by decide) (by rw [hj, e])
  case round =>
    obtain ⟨k, rfl, hk64, acc, s1, v1, hp, hr1, hok1, hg1, hm1, ho1, hu1, hv1, hl0, hl1⟩ := hrel
    obtain ⟨A1, c1, rfl, _, hcm⟩ := row_form_ ho1
    have HP := Lib.hid hp
    have HR1 := Lib.hid hr1
    have HOK1 := Lib.hid hok1
    have HG1 := Lib.hid hg1
    have HM1 := Lib.hid hm1
    have HO1 := Lib.hid ho1
    have HU1 := Lib.hid hu1
    have HV1 := Lib.hid hv1
    have HL0 := Lib.hid hl0
    clear hl0 hp hr1 hok1 hg1 hm1 ho1 hu1 hv1 hcm
    by_cases hk0 : k = 0
    · subst hk0
      have hres : R = (acc, s1) := HP.out.symm
      have hkd : decide ((0 : Int) < ((0 : Nat) : Int)) = false := by decide
      rw [Int.natCast_zero] at *
      go_wp2_with fail
      go_end0
      rw [hres]
      exact ⟨rfl, _, HR1.out, HM1.out, HO1.out, HU1.out, HV1.out⟩
    obtain ⟨j, rfl⟩ : ∃ j, k = j + 1 := ⟨k - 1, by omega⟩
    have hkd : (0 : Int) < ((j + 1 : Nat) : Int) := by omega
    by_cases he : s1.2 = 0
    case neg =>
      have hres : R = (acc, s1) := by
        rw [← HP.out, pVts, if_neg he]
      have HRES := Lib.hid hres
      have he' : (s1.2 == 0) = false := beq_eq_false_iff_ne.2 he
      clear hres he
      go_wp2_with fail
      refine (HERR.out _ _ HR1.out).mono ?_
      rintro e w2 ⟨rfl, rfl⟩
      go_wp2_with fail
      go_end0
      rw [HRES.out]
      exact ⟨rfl, _, HR1.out, HM1.out, HO1.out, HU1.out, HV1.out⟩
    have he' : (s1.2 == 0) = true := beq_iff_eq.2 he
    have hl2 := HL0.out he
    have hstep : pVts j (acc ++ [(pVt s1).1], (pVt s1).2) = R := by
      rw [← HP.out, pVts, if_pos he]
    have HSTEP := Lib.hid hstep
    have HER := Lib.hid (HERR.out _ _ HR1.out)
    clear hstep he
    go_upto_region 3 with (go_at_call 35; refine HER.out.mono ?_; rintro e w2 ⟨rfl, rfl⟩)
    have HVT0 : Hid (pVt s1 = pVt s1) := rfl
    have HC0 := Lib.hid (fun (wx : World) (hx : Rd wx b s1) => wrnum_any hx HOK1.out)
    have ok0 := HOK1.out.num.1
    have hvt : pVt s1 = pVt s1 := rfl
    conv at hvt => rhs; unfold pVt
    dsimp only at hvt
    generalize pNum s1 = r at *
    obtain ⟨x0, u0⟩ := r
    dsimp only at HC0 ok0 hvt
    have HC1 := Lib.hid (fun (wx : World) (hx : Rd wx b u0) => btake_any hx ok0)
    have ok1 := ok0.bal.1
    generalize pBal u0 = r at *
    obtain ⟨⟨x1, x2⟩, u1⟩ := r
    dsimp only at HC1 ok1 hvt
    unfold balV at HC1
    have HC2 := Lib.hid (fun (wx : World) (hx : Rd wx b u1) => wrstr_any hx ok1 65536 (by decide) (by decide))
    generalize pStr 65536 u1 = r at *
    obtain ⟨x3, u3⟩ := r
    dsimp only at HC2 hvt
    have HVT := Lib.hid hvt
    have hm1 := HM1.out.cell 7
    have f7 : wr.cell? ⟨g, 7, none⟩ = some (.slice A1 acc.length c1) := hm1
    have hacc : acc.length ≤ 1000000001 := by omega
    have HBR : Hid (∀ j, Value.ownBlock (.slice A1 acc.length c1) = some j → j ≠ b ∧ j ≠ g) := fun j hj => ⟨fun e => own_blk_ne HO1.out HR1.out (by decide) (by rw [hj, e]), fun e => own_blk_ne HO1.out HM1.out (by decide) (by rw [hj, e])⟩
    clear hvt hm1 ok0 ok1 HVT0
    go_region_law (first
        | (go_simp
           go_at_call 34
           refine (HC0.out _ (by exact HR1.out)).mono ?_
           rintro e w2 ⟨rfl, hto2⟩
           have HT2 : Hid (RdTo wr b u0 w2) := ⟨(Upd.refl _ wr).drew.trans hto2.1 (fun _ _ h => h), hto2.2⟩
           have f7 : w2.cell? ⟨g, 7, none⟩ = some (.slice A1 acc.length c1) := (HM1.out.upd HT2.out.1 (fun e => HBG.out e.symm)).cell 7
           clear hto2)
        | (go_simp
           go_at_call 66
           refine (HC1.out _ HT2.out.2).mono ?_
           rintro e w3 ⟨rfl, hto3⟩
           have HT3 := Lib.hid (HT2.out.trans hto3)
           have f7 : w3.cell? ⟨g, 7, none⟩ = some (.slice A1 acc.length c1) := (HM1.out.upd HT3.out.1 (fun e => HBG.out e.symm)).cell 7
           clear hto3)
        | (go_simp
           go_at_call 56
           refine (HC2.out _ HT3.out.2).mono ?_
           rintro e w4 ⟨rfl, hto4⟩
           have HT4 := Lib.hid (HT3.out.trans hto4)
           have f7 : w4.cell? ⟨g, 7, none⟩ = some (.slice A1 acc.length c1) := (HM1.out.upd HT4.out.1 (fun e => HBG.out e.symm)).cell 7
           have f7a : (w4.alloc (.cells #[.int .u64 x0, .int .u64 x1, .int .u8 x2, .string (strOfNums x3)] 47)).cell? ⟨g, 7, none⟩ = some (.slice A1 acc.length c1) := ((HM1.out.upd HT4.out.1 (fun e => HBG.out e.symm)).alloc _).cell 7
           clear hto4)
        | (refine step_append_sl _ (by rfl) (.tmp 20) (.tmp 28) _ (by rfl) 47 i0 _ 4 40 Try.underlying26 hi0 hz0 hz1 hz2 rfl (by omega) (.slice A1 acc.length c1) acc.length (acc.flatMap vtCells) (by rfl) (by exact (own_upd HO1.out HT4.out.1 (fun j hj e => (HBR.out j hj).1 e)).alloc _) _ _ 1 (vtCells ⟨x0, x1, x2, x3⟩) (by rfl) (by exact Sl.blkOne (Blk.new w4 47 #[.int .u64 x0, .int .u64 x1, .int .u8 x2, .string (strOfNums x3)]) rfl) (vtCells_one _) (by simp only [maxLen]; omega) (by omega) ?_
           intro v5 w5 hown5 hg5 hat5
           obtain ⟨A5, c5, rfl, _, _⟩ := row_form_ hown5
           have hm5 := Blk.grown (((HM1.out.upd HT4.out.1 (fun e => HBG.out e.symm)).alloc (.cells #[.int .u64 x0, .int .u64 x1, .int .u8 x2, .string (strOfNums x3)] 47))) hg5 (fun e => (HBR.out g e.symm).2 rfl)
           have HM5 := Lib.hid hm5
           have f75 : w5.cell? ⟨g, 7, none⟩ = some (.slice A1 acc.length c1) := hm5.cell 7
           have z75 : w5.frozen? ⟨g, 7, none⟩ = false := hm5.frozen 7
           have HO5 := Lib.hid hown5
           have HG5 := Lib.hid hg5
           have HA5 := Lib.hid hat5
           clear hown5 hg5 hat5 hm5)
        | fail)
    all_goals
      go_wp2_with fail
      go_roundw
      case rel =>
        have hu5 : Upd (fun q => q = b ∨ q = g ∨ vv.ownBlock = some q) w w5 := (HU1.out.trans ((HT4.out.1.mono (G := fun q => q = b ∨ q = g ∨ vv.ownBlock = some q) (fun _ _ h => .inl h)).alloc (.cells #[.int .u64 x0, .int .u64 x1, .int .u8 x2, .string (strOfNums x3)] 47)) (fun _ _ h => h)).grown HG5.out (fun q hq => by
          rcases HV1.out q hq with h | h
          · exact .inl (.inr (.inr h))
          · exact .inr h)
        have hset : Upd (fun q => q = g) w5 (w5.setCell ⟨g, 7, none⟩ (.slice A5 (acc.length + 1) c5)) := Upd.setCell (F := fun q => q = g) (Upd.refl _ _) (p := ⟨g, 7, none⟩) (.inl rfl) _
        have hne5 : ∀ q, Value.ownBlock (.slice A5 (acc.length + 1) c5) = some q → q ≠ g := fun q hq e => own_blk_ne HO5.out HM5.out (by decide) (by rw [hq, e])
        have hsz := HU1.out.size
        have hsz4 := HT4.out.1.size
        have hok5 := HOK1.out.vt
        have hgo5 := HG1.out.vt
        refine ⟨j, by simp, by omega, acc ++ [(pVt s1).1], (pVt s1).2, .slice A5 (acc.length + 1) c5, HSTEP.out, ?_, hok5.1, hgo5, ?_, ?_, hu5.trans hset (fun i hi e => .inr (.inl e)), fun q hq => ?_, fun h0 => ?_, ?_⟩
        · rw [HVT.out]
          exact Blk.far (Blk.grown (Blk.alloc HT4.out.2 _) HG5.out (fun e => (HBR.out b e.symm).1 rfl)) HBG.out _
        · simpa [msCells] using HM5.out.set_ 7 (.slice A5 (acc.length + 1) c5)
        · have := own_upd HO5.out hset (fun q hq e => hne5 q hq e)
          rw [List.length_append, List.flatMap_append, HVT.out]
          simpa using this
        · rcases HA5.out with h | h
          · rw [h] at hq
            exact HV1.out q hq
          · rw [h] at hq
            have := Option.some.inj hq
            simp only [World.size_alloc] at this
            exact .inr (by omega)
        · have := vt_cost0 HOK1.out h0
          rw [List.length_append, List.length_singleton]
          omega
        · by_cases h0 : (pVt s1).2.2 = 0
          · have := vt_cost0 HOK1.out h0
            rw [List.length_append, List.length_singleton]
            omega
          · rw [hgo5 h0, List.length_append, List.length_singleton]
            simp
            omega
      case measure => simp [intOf]
/-- The loop that takes items. -/
def ItL (w : World) (b g : Nat) (m : Ms) (vv0 vi : Value) (R : List It × Rs) (k : Nat) (wr : World) : Prop :=
  ∃ (acc : List It) (s : Rs) (vv : Value), pIts k (acc, s) = R ∧ Rd wr b s ∧ RdOk s ∧ Gone s ∧ Blk wr g 34 (msCells { m with items := acc } vi vv) ∧ wr.ownsRow 0 49 2 vv acc.length (acc.flatMap itCells) ∧ Upd (fun j => j = b ∨ j = g ∨ vv0.ownBlock = some j) w wr ∧ (∀ j, vv.ownBlock = some j → vv0.ownBlock = some j ∨ w.heap.size ≤ j) ∧ (s.2 = 0 → acc.length + s.1.length ≤ 1000000000) ∧ acc.length + s.1.length ≤ 1000000001

set_option maxRecDepth 100000 in
set_option maxHeartbeats 4000000 in
theorem it_take {w : World} {b g : Nat} {s : Rs} (hR : Rd w b s) (hs : RdOk s) (hgo : Gone s) (m : Ms) {vv : Value} {Ai : Option Addr} {ni ci : Nat} (hM : Blk w g 34 (msCells m (.slice Ai ni ci) vv)) (hown : w.ownsRow 0 49 2 vv m.items.length (m.items.flatMap itCells)) (hle : m.items.length + s.1.length ≤ 1000000000) :
    Calls Try.prog 92 #[.pointer (some ⟨b, 0, none⟩), .pointer (some ⟨g, 0, none⟩)] w fun e w' => e = .returned (.tuple #[]) ∧ ∃ vv', Rd w' b (ptTake (m, s) .items).2 ∧ Blk w' g 34 (msCells (ptTake (m, s) .items).1 (.slice Ai ni ci) vv') ∧ w'.ownsRow 0 49 2 vv' (ptTake (m, s) .items).1.items.length ((ptTake (m, s) .items).1.items.flatMap itCells) ∧ Upd (fun j => j = b ∨ j = g ∨ vv.ownBlock = some j) w w' ∧ (∀ j, vv'.ownBlock = some j → vv.ownBlock = some j ∨ w.heap.size ≤ j) := by
  obtain ⟨i0, hi0, hz0, hz1, hz2⟩ := info_parts infoItem
  have HR := Lib.hid hR
  have HM := Lib.hid hM
  have HOWN := Lib.hid hown
  have HN := Lib.hid (fun (wx : World) (hx : Rd wx b s) => wrnum_any hx hs)
  have hno := hs.num
  have hgn := hgo.num
  have hnl : (pNum s).2.1.length ≤ s.1.length := by
    by_cases h : (pNum s).2.2 = 0
    · rcases hv : pNum s with ⟨x, l', e⟩
      rw [hv] at h
      simp only at h
      subst h
      rw [(pNumOk hv hs.1).1]
      simp
    · rw [hgn h]; simp
  have HLE : Hid (m.items.length + (pNum s).2.1.length ≤ 1000000000) := by show _ ≤ _; omega
  unfold ptTake
  dsimp only
  generalize pNum s = r at *
  obtain ⟨n, s0⟩ := r
  dsimp only at HN hno hgn HLE ⊢
  obtain ⟨N, rfl⟩ : ∃ N : Nat, n = (N : Int) := ⟨n.toNat, by have := hno.2.1; omega⟩
  rw [Int.toNat_natCast]
  obtain ⟨R, hRR⟩ : ∃ R, pIts N (m.items, s0) = R := ⟨_, rfl⟩
  have HRR := Lib.hid hRR
  rw [hRR]
  have HNO := Lib.hid hno.1
  have HGN := Lib.hid hgn
  have hN64 : N < 18446744073709551616 := by have := hno.2.2; omega
  have HN64 := Lib.hid hN64
  have hbg : b ≠ g := Blk.ne_ hR hM (by decide)
  have HBG := Lib.hid hbg
  have HERR := Lib.hid (fun (wx : World) (t : Rs) (hx : Rd wx b t) => werr_any hx)
  clear hR hs hgo hM hown hle hno hgn hnl hRR hN64 hbg
  go_enter Try.func92, Try.ntmps92
  go_wp2_with fail
  refine (HN.out _ HR.out).mono ?_
  rintro e w1 ⟨rfl, hto⟩
  have HT := Lib.hid hto
  clear hto
  go_wp2_with fail
  go_loopw [4] (fun x wr => ∃ k : Nat, x = .int .u64 k ∧ k < 18446744073709551616 ∧ ItL w b g m vv (.slice Ai ni ci) R k wr) (fun x _ => (intOf x).toNat)
  case atStart =>
    refine ⟨N, rfl, HN64.out, m.items, s0, vv, HRR.out, HT.out.2, HNO.out, HGN.out, HM.out.upd HT.out.1 (fun e => HBG.out e.symm), own_upd HOWN.out HT.out.1 (fun j hj e => ?_), HT.out.1.mono (fun _ _ h => .inl h), fun j hj => .inl hj, fun _ => HLE.out, by have := HLE.out; omega⟩
    exact own_blk_ne HOWN.out HR.out (by decide) (by rw [hj, e])
  case round =>
    obtain ⟨k, rfl, hk64, acc, s1, v1, hp, hr1, hok1, hg1, hm1, ho1, hu1, hv1, hl0, hl1⟩ := hrel
    obtain ⟨A1, c1, rfl, _, hcm⟩ := row_form_ ho1
    have HP := Lib.hid hp
    have HR1 := Lib.hid hr1
    have HOK1 := Lib.hid hok1
    have HG1 := Lib.hid hg1
    have HM1 := Lib.hid hm1
    have HO1 := Lib.hid ho1
    have HU1 := Lib.hid hu1
    have HV1 := Lib.hid hv1
    have HL0 := Lib.hid hl0
    clear hl0 hp hr1 hok1 hg1 hm1 ho1 hu1 hv1 hcm
    by_cases hk0 : k = 0
    · subst hk0
      have hres : R = (acc, s1) := HP.out.symm
      have hkd : decide ((0 : Int) < ((0 : Nat) : Int)) = false := by decide
      rw [Int.natCast_zero] at *
      go_wp2_with fail
      go_end0
      rw [hres]
      exact ⟨rfl, _, HR1.out, HM1.out, HO1.out, HU1.out, HV1.out⟩
    obtain ⟨j, rfl⟩ : ∃ j, k = j + 1 := ⟨k - 1, by omega⟩
    have hkd : (0 : Int) < ((j + 1 : Nat) : Int) := by omega
    by_cases he : s1.2 = 0
    case neg =>
      have hres : R = (acc, s1) := by
        rw [← HP.out, pIts, if_neg he]
      have HRES := Lib.hid hres
      have he' : (s1.2 == 0) = false := beq_eq_false_iff_ne.2 he
      clear hres he
      go_wp2_with fail
      refine (HERR.out _ _ HR1.out).mono ?_
      rintro e w2 ⟨rfl, rfl⟩
      go_wp2_with fail
      go_end0
      rw [HRES.out]
      exact ⟨rfl, _, HR1.out, HM1.out, HO1.out, HU1.out, HV1.out⟩
    have he' : (s1.2 == 0) = true := beq_iff_eq.2 he
    have hl2 := HL0.out he
    have hstep : pIts j (acc ++ [(pIt s1).1], (pIt s1).2) = R := by
      rw [← HP.out, pIts, if_pos he]
    have HSTEP := Lib.hid hstep
    have HER := Lib.hid (HERR.out _ _ HR1.out)
    clear hstep he
    go_upto_region 3 with (go_at_call 35; refine HER.out.mono ?_; rintro e w2 ⟨rfl, rfl⟩)
    have HVT0 : Hid (pIt s1 = pIt s1) := rfl
    have HC0 := Lib.hid (fun (wx : World) (hx : Rd wx b s1) => wrnum_any hx HOK1.out)
    have ok0 := HOK1.out.num.1
    have hvt : pIt s1 = pIt s1 := rfl
    conv at hvt => rhs; unfold pIt
    dsimp only at hvt
    generalize pNum s1 = r at *
    obtain ⟨x0, u0⟩ := r
    dsimp only at HC0 ok0 hvt
    have HC2 := Lib.hid (fun (wx : World) (hx : Rd wx b u0) => wrstr_any hx ok0 65536 (by decide) (by decide))
    generalize pStr 65536 u0 = r at *
    obtain ⟨x3, u3⟩ := r
    dsimp only at HC2 hvt
    have HVT := Lib.hid hvt
    have hm1 := HM1.out.cell 8
    have f7 : wr.cell? ⟨g, 8, none⟩ = some (.slice A1 acc.length c1) := hm1
    have hacc : acc.length ≤ 1000000001 := by omega
    have HBR : Hid (∀ j, Value.ownBlock (.slice A1 acc.length c1) = some j → j ≠ b ∧ j ≠ g) := fun j hj => ⟨fun e => own_blk_ne HO1.out HR1.out (by decide) (by rw [hj, e]), fun e => own_blk_ne HO1.out HM1.out (by decide) (by rw [hj, e])⟩
    clear hvt hm1 ok0 HVT0
    go_region_law (first
        | (go_simp
           go_at_call 34
           refine (HC0.out _ (by exact HR1.out)).mono ?_
           rintro e w2 ⟨rfl, hto2⟩
           have HT2 : Hid (RdTo wr b u0 w2) := ⟨(Upd.refl _ wr).drew.trans hto2.1 (fun _ _ h => h), hto2.2⟩
           have f7 : w2.cell? ⟨g, 8, none⟩ = some (.slice A1 acc.length c1) := (HM1.out.upd HT2.out.1 (fun e => HBG.out e.symm)).cell 8
           clear hto2)
        | (go_simp
           go_at_call 56
           refine (HC2.out _ HT2.out.2).mono ?_
           rintro e w4 ⟨rfl, hto4⟩
           have HT4 := Lib.hid (HT2.out.trans hto4)
           have f7 : w4.cell? ⟨g, 8, none⟩ = some (.slice A1 acc.length c1) := (HM1.out.upd HT4.out.1 (fun e => HBG.out e.symm)).cell 8
           have f7a : (w4.alloc (.cells #[.int .u64 x0, .string (strOfNums x3)] 49)).cell? ⟨g, 8, none⟩ = some (.slice A1 acc.length c1) := ((HM1.out.upd HT4.out.1 (fun e => HBG.out e.symm)).alloc _).cell 8
           clear hto4)
        | (refine step_append_sl _ (by rfl) (.tmp 20) (.tmp 26) _ (by rfl) 49 i0 _ 2 24 Try.underlying27 hi0 hz0 hz1 hz2 rfl (by omega) (.slice A1 acc.length c1) acc.length (acc.flatMap itCells) (by rfl) (by exact (own_upd HO1.out HT4.out.1 (fun j hj e => (HBR.out j hj).1 e)).alloc _) _ _ 1 (itCells ⟨x0, x3⟩) (by rfl) (by exact Sl.blkOne (Blk.new w4 49 #[.int .u64 x0, .string (strOfNums x3)]) rfl) (itCells_one _) (by simp only [maxLen]; omega) (by omega) ?_
           intro v5 w5 hown5 hg5 hat5
           obtain ⟨A5, c5, rfl, _, _⟩ := row_form_ hown5
           have hm5 := Blk.grown (((HM1.out.upd HT4.out.1 (fun e => HBG.out e.symm)).alloc (.cells #[.int .u64 x0, .string (strOfNums x3)] 49))) hg5 (fun e => (HBR.out g e.symm).2 rfl)
           have HM5 := Lib.hid hm5
           have f75 : w5.cell? ⟨g, 8, none⟩ = some (.slice A1 acc.length c1) := hm5.cell 8
           have z75 : w5.frozen? ⟨g, 8, none⟩ = false := hm5.frozen 8
           have HO5 := Lib.hid hown5
           have HG5 := Lib.hid hg5
           have HA5 := Lib.hid hat5
           clear hown5 hg5 hat5 hm5)
        | fail)
    all_goals
      go_wp2_with fail
      go_roundw
      case rel =>
        have hu5 : Upd (fun q => q = b ∨ q = g ∨ vv.ownBlock = some q) w w5 := (HU1.out.trans ((HT4.out.1.mono (G := fun q => q = b ∨ q = g ∨ vv.ownBlock = some q) (fun _ _ h => .inl h)).alloc (.cells #[.int .u64 x0, .string (strOfNums x3)] 49)) (fun _ _ h => h)).grown HG5.out (fun q hq => by
          rcases HV1.out q hq with h | h
          · exact .inl (.inr (.inr h))
          · exact .inr h)
        have hset : Upd (fun q => q = g) w5 (w5.setCell ⟨g, 8, none⟩ (.slice A5 (acc.length + 1) c5)) := Upd.setCell (F := fun q => q = g) (Upd.refl _ _) (p := ⟨g, 8, none⟩) (.inl rfl) _
        have hne5 : ∀ q, Value.ownBlock (.slice A5 (acc.length + 1) c5) = some q → q ≠ g := fun q hq e => own_blk_ne HO5.out HM5.out (by decide) (by rw [hq, e])
        have hsz := HU1.out.size
        have hsz4 := HT4.out.1.size
        have hok5 := HOK1.out.it
        have hgo5 := HG1.out.it
        refine ⟨j, by simp, by omega, acc ++ [(pIt s1).1], (pIt s1).2, .slice A5 (acc.length + 1) c5, HSTEP.out, ?_, hok5.1, hgo5, ?_, ?_, hu5.trans hset (fun i hi e => .inr (.inl e)), fun q hq => ?_, fun h0 => ?_, ?_⟩
        · rw [HVT.out]
          exact Blk.far (Blk.grown (Blk.alloc HT4.out.2 _) HG5.out (fun e => (HBR.out b e.symm).1 rfl)) HBG.out _
        · simpa [msCells] using HM5.out.set_ 8 (.slice A5 (acc.length + 1) c5)
        · have := own_upd HO5.out hset (fun q hq e => hne5 q hq e)
          rw [List.length_append, List.flatMap_append, HVT.out]
          simpa using this
        · rcases HA5.out with h | h
          · rw [h] at hq
            exact HV1.out q hq
          · rw [h] at hq
            have := Option.some.inj hq
            simp only [World.size_alloc] at this
            exact .inr (by omega)
        · have := it_cost0 HOK1.out h0
          rw [List.length_append, List.length_singleton]
          omega
        · by_cases h0 : (pIt s1).2.2 = 0
          · have := it_cost0 HOK1.out h0
            rw [List.length_append, List.length_singleton]
            omega
          · rw [hgo5 h0, List.length_append, List.length_singleton]
            simp
            omega
      case measure => simp [intOf]
end Go.Proofs.Ytaielcokfpodaaa
