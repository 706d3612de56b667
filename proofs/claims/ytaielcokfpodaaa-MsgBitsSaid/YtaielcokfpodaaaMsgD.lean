/-
  Layer 18, messages: what puts votes and items. Conditions: a row of at most 10^6 bytes; lists of at most 5 10^7 bytes.
-/
import Derived.Test.YtaielcokfpodaaaMsgC
namespace Go.Proofs.Ytaielcokfpodaaa
open Go.RowKit

def vtCells (v : Vt) : List Value := [.int .u64 v.slot, .int .u64 v.n, .int .u8 v.r, .string (strOfNums v.val)]
def itCells (v : It) : List Value := [.int .u64 v.slot, .string (strOfNums v.val)]
theorem vt_at : ∀ (L : List Vt) (k : Nat) (hk : k < L.length) (j : Nat), j < 4 → (L.flatMap vtCells)[k * 4 + j]? = (vtCells L[k])[j]?
  | x :: L, 0, _, j, hj => by
    rw [List.flatMap_cons, List.getElem?_append_left (by simp [vtCells]; omega)]
    simp
  | x :: L, k + 1, hk, j, hj => by
    rw [List.flatMap_cons, List.getElem?_append_right (by simp [vtCells]; omega)]
    have := vt_at L k (by simpa using hk) j hj
    rw [show (k + 1) * 4 + j - (vtCells x).length = k * 4 + j by simp [vtCells]; omega, this]
    simp
theorem it_at : ∀ (L : List It) (k : Nat) (hk : k < L.length) (j : Nat), j < 2 → (L.flatMap itCells)[k * 2 + j]? = (itCells L[k])[j]?
  | x :: L, 0, _, j, hj => by
    rw [List.flatMap_cons, List.getElem?_append_left (by simp [itCells]; omega)]
    simp
  | x :: L, k + 1, hk, j, hj => by
    rw [List.flatMap_cons, List.getElem?_append_right (by simp [itCells]; omega)]
    have := it_at L k (by simpa using hk) j hj
    rw [show (k + 1) * 2 + j - (itCells x).length = k * 2 + j by simp [itCells]; omega, this]
    simp
/-- The cells of the k-th element, in the world at hand. -/
theorem Sl.row_ {w wr : World} {F G : Nat → Prop} {size n : Nat} {A : Option Addr} {c : Nat} {xs : List Value} (h : Sl w G size (.slice A n c) n xs) (hu : Upd F w wr) (hd : ∀ g, G g → ¬ F g) {k : Nat} (hk : k < n) {ys : List Value} (hy : ∀ j, j < size → xs[k * size + j]? = ys[j]?) (hys : ys.length = size) :
    ∃ b o, A = some ⟨b, o, none⟩ ∧ ∀ j u, ys[j]? = some u → wr.cell? ⟨b, o + k * size + j, none⟩ = some u := by
  obtain ⟨hl, A', c', e, hc, hm, hA, hx⟩ := h
  simp only [Value.slice.injEq, true_and] at e
  obtain ⟨rfl, rfl⟩ := e
  obtain ⟨b, o, rfl, hF, hb, hcell⟩ := hx (by omega)
  refine ⟨b, o, rfl, fun j u hu' => ?_⟩
  have hj : j < size := by rw [← hys]; exact (List.getElem?_eq_some_iff.1 hu').1
  have := hcell (k * size + j) u (by rw [hy j hj]; exact hu')
  rw [← Nat.add_assoc] at this
  exact (hu.cell (p := ⟨b, o + k * size + j, none⟩) hb (hd b hF)).trans this
theorem flat_take_len {α : Type} (f : α → List Int) (l : List α) (k : Nat) : ((l.take k).flatMap f).length ≤ (l.flatMap f).length := by
  have h : l.flatMap f = (l.take k).flatMap f ++ (l.drop k).flatMap f := by rw [← List.flatMap_append, List.take_append_drop]
  rw [h, List.length_append]
  omega

set_option maxRecDepth 100000 in
set_option maxHeartbeats 2000000 in
theorem vo_put {w : World} {v : Value} {l : List Int} (h : Ow w v l) (m : Ms) (hw : WfM m) (Av Ai : Option Addr) (nv cv ni ci : Nat) (hl : l.length ≤ 1000000) {G : Nat → Prop} (hv : Sl w G 4 (.slice Av nv cv) m.votes.length (m.votes.flatMap vtCells)) (hGv : ∀ g, G g → v.ownBlock ≠ some g) (hb : (m.votes.flatMap vtBy).length ≤ 50000000) :
    Calls Try.prog 80 #[v, msV m (.slice Av nv cv) (.slice Ai ni ci)] w fun e w' => ∃ v', e = .returned v' ∧ OwTo w v (l ++ ptBy m .votes) w' v' := by
  have HO := Lib.hid h
  obtain ⟨A, c, rfl, hnc, hcm⟩ := h.shape
  obtain ⟨kind, bn, br, base, slot, node, val, votes, items, ⟨client, seq, ckind, key, old, new, cset⟩, code, text⟩ := m
  obtain ⟨hll, hwf⟩ := hw.votes
  unfold msV msCells ptBy
  dsimp only at hv hb hll hwf ⊢
  have hnn : nv = votes.length := by
    obtain ⟨_, _, e, _⟩ := hv.shape
    simp only [Value.slice.injEq] at e
    exact e.2.1
  subst hnn
  have HLL := Lib.hid hll
  have HWF := Lib.hid hwf
  have HV := Lib.hid hv
  have HGV := Lib.hid hGv
  have HBB := Lib.hid hb
  obtain ⟨L0, hL0⟩ : ∃ L, l ++ numE votes.length = L := ⟨_, rfl⟩
  obtain ⟨R, hR⟩ : ∃ R, l ++ (numE votes.length ++ votes.flatMap vtBy) = R := ⟨_, rfl⟩
  rw [hR]
  have HRR : Hid (R = L0 ++ votes.flatMap vtBy) := by show _ = _; rw [← hR, ← hL0, List.append_assoc]
  have hE := numE_len votes.length
  have hl0 : L0.length ≤ 1000010 := by rw [← hL0, List.length_append]; omega
  have HN : Hid (∀ (wx : World) (vx : Value), Ow wx vx l → Calls Try.prog 32 #[vx, .int .u64 (votes.length : Int)] wx fun e w' => ∃ v', e = .returned v' ∧ OwTo wx vx L0 w' v') := fun wx vx hx => by
    rw [← hL0]; exact wnum_any hx votes.length (by have := HLL.out; omega) (by omega)
  have HL0 := Lib.hid hl0
  obtain ⟨N, hN⟩ : ∃ N, votes.length = N := ⟨_, rfl⟩
  have HNN := Lib.hid hN
  have hN6 : (N : Int) ≤ 1000000 := by rw [← hN]; omega
  have hwr : IntKind.u64.wrap (N : Int) = (N : Int) := IntWalk.u64_in _ ⟨by omega, by omega⟩
  have HCAP : Hid (N ≤ cv ∧ cv ≤ maxLen) := by
    obtain ⟨_, c', e, h1, h2⟩ := hv.shape
    simp only [Value.slice.injEq] at e
    rw [← hN, e.2.2]; exact ⟨h1, h2⟩
  rw [hN] at HN HV hll
  rw [hN]
  clear h hw hv hGv hb hR hL0 hl0 hll hwf hE hN hnc hcm
  go_enter Try.func80, Try.ntmps80
  go_upto_region 1 with fail
  have hb0 := Blk.new w 34 #[.int .u8 kind, .int .u64 bn, .int .u8 br, .int .u64 base, .int .u64 slot, .int .u8 node, .string (strOfNums val), .slice Av N cv, .slice Ai ni ci, .int .u8 client, .int .u32 seq, .int .u8 ckind, .string (strOfNums key), .string (strOfNums old), .string (strOfNums new), .int .u8 cset, .int .u8 code, .string (strOfNums text)]
  have hw0 : Upd (fun _ => False) w (w.alloc (.cells #[.int .u8 kind, .int .u64 bn, .int .u8 br, .int .u64 base, .int .u64 slot, .int .u8 node, .string (strOfNums val), .slice Av N cv, .slice Ai ni ci, .int .u8 client, .int .u32 seq, .int .u8 ckind, .string (strOfNums key), .string (strOfNums old), .string (strOfNums new), .int .u8 cset, .int .u8 code, .string (strOfNums text)] 34)) := (Upd.refl _ _).alloc _
  generalize w.alloc (.cells #[.int .u8 kind, .int .u64 bn, .int .u8 br, .int .u64 base, .int .u64 slot, .int .u8 node, .string (strOfNums val), .slice Av N cv, .slice Ai ni ci, .int .u8 client, .int .u32 seq, .int .u8 ckind, .string (strOfNums key), .string (strOfNums old), .string (strOfNums new), .int .u8 cset, .int .u8 code, .string (strOfNums text)] 34) = w0 at *
  have HU0 := Lib.hid (HO.out.still hw0)
  have HW0 := Lib.hid hw0
  have HB0 := Lib.hid hb0
  have hzz : w0.cell? ⟨w.heap.size, 7, none⟩ = some (.slice Av N cv) := hb0.cell 7
  have HOB : Hid (∀ k, Value.ownBlock (.slice A l.length c) = some k → k ≠ w.heap.size) := fun k hk e => by have := (HO.out.lt k hk).2; omega
  clear hb0 hw0
  go_wp2_with fail
  have hq := HU0.out.1
  (with_reducible refine (HN.out _ _ hq).mono ?_)
  clear hq
  rintro e w1 ⟨v1, rfl, ho1⟩
  have HO1 := Lib.hid (HU0.out.1.to.trans ho1)
  have hzz : w1.cell? ⟨w.heap.size, 7, none⟩ = some (.slice Av N cv) := (HB0.out.upd ho1.2.1 (fun h => HOB.out _ h rfl)).cell 7
  clear ho1 hwr
  go_wp2_with fail
  clear hzz
  go_loopw [0, 16] (fun vr i wr => ∃ k : Nat, k ≤ N ∧ i = .int .i64 k ∧ OwTo w0 (.slice A l.length c) (L0 ++ (votes.take k).flatMap vtBy) wr vr) (fun _ i _ => N - (intOf i).toNat)
  case atStart => exact ⟨0, Nat.zero_le _, rfl, by simpa using HO1.out⟩
  case round =>
    obtain ⟨k, hk, rfl, ho⟩ := hrel
    by_cases hlt : k < N
    · have hkl : k < votes.length := by rw [HNN.out]; exact hlt
      obtain ⟨b, o, rfl, hc⟩ := HV.out.row_ (F := fun g => Value.ownBlock (.slice A l.length c) = some g) ((HW0.out.mono (fun _ _ h => h.elim)).trans ho.2.1 (fun _ _ h => h)) (fun g hg h => HGV.out g hg h) hlt (vt_at votes k hkl) rfl
      have hwk := HWF.out votes[k] (List.getElem_mem hkl)
      have hsn : (votes.take (k + 1)).flatMap vtBy = (votes.take k).flatMap vtBy ++ vtBy votes[k] := by rw [List.take_succ_eq_append_getElem hkl, List.flatMap_append]; simp
      have hle := flat_take_len vtBy votes k
      have hle2 := flat_take_len vtBy votes (k + 1)
      rw [hsn, List.length_append] at hle2
      obtain ⟨M, hM⟩ : ∃ M, L0 ++ (votes.take k).flatMap vtBy = M := ⟨_, rfl⟩
      have hMl : M.length + (vtBy votes[k]).length ≤ 60000000 := by
        rw [← hM, List.length_append]
        have := HBB.out
        have := HL0.out
        omega
      have HSN : Hid (L0 ++ (votes.take (k + 1)).flatMap vtBy = M ++ vtBy votes[k]) := by show _ = _; rw [hsn, ← List.append_assoc, hM]
      rw [hM] at ho
      clear hM hsn hle hle2
      obtain ⟨x, hx⟩ : ∃ x, votes[k] = x := ⟨_, rfl⟩
      rw [hx] at hc hwk hMl HSN
      obtain ⟨sl, nn, rr, vl⟩ := x
      unfold vtBy at hMl
      dsimp only at hMl
      have e0 : wr.cell? ⟨b, o + k * 4, none⟩ = some (.int .u64 sl) := hc 0 _ rfl
      have e1 : wr.cell? ⟨b, o + k * 4 + 1, none⟩ = some (.int .u64 nn) := hc 1 _ rfl
      have e2 : wr.cell? ⟨b, o + k * 4 + 2, none⟩ = some (.int .u8 rr) := hc 2 _ rfl
      have e3 : wr.cell? ⟨b, o + k * 4 + 3, none⟩ = some (.string (strOfNums vl)) := hc 3 _ rfl
      obtain ⟨Ar, cr, rfl, _, _⟩ := ho.1.shape
      have HO2 := Lib.hid ho
      have HWK := Lib.hid hwk
      clear hc hx ho hwk
      obtain ⟨sq, rfl⟩ : ∃ sq : Nat, sl = (sq : Int) := ⟨sl.toNat, by have := HWK.out.slot.1; dsimp only at this; omega⟩
      obtain ⟨nq, rfl⟩ : ∃ nq : Nat, nn = (nq : Int) := ⟨nn.toNat, by have := HWK.out.n.1; dsimp only at this; omega⟩
      obtain ⟨M1, hM1⟩ : ∃ M', M ++ numE sq = M' := ⟨_, rfl⟩
      obtain ⟨M2, hM2⟩ : ∃ M', M1 ++ balBy (nq : Int) rr = M' := ⟨_, rfl⟩
      rw [Int.toNat_natCast, List.length_append, List.length_append] at hMl
      have hM1l : M1.length ≤ 60000000 := by rw [← hM1, List.length_append]; omega
      have hM2l : M2.length ≤ 60000000 := by rw [← hM2, ← hM1, List.length_append, List.length_append]; omega
      have HM : Hid (M ++ vtBy ⟨(sq : Int), (nq : Int), rr, vl⟩ = M2 ++ strBy vl) := by
        show _ = _
        unfold vtBy
        dsimp only
        rw [Int.toNat_natCast, ← hM2, ← hM1]
        simp only [List.append_assoc]
      have HC1 : Hid (∀ (wx : World) (vx : Value), Ow wx vx M → Calls Try.prog 32 #[vx, .int .u64 (sq : Int)] wx fun e w' => ∃ v', e = .returned v' ∧ OwTo wx vx M1 w' v') := fun wx vx hx => by
        rw [← hM1]; exact wnum_any hx sq (by have := HWK.out.slot.2; dsimp only at this; omega) (by omega)
      have HC2 : Hid (∀ (wx : World) (vx : Value), Ow wx vx M1 → Calls Try.prog 64 #[vx, .agg #[.int .u64 (nq : Int), .int .u8 rr]] wx fun e w' => ∃ v', e = .returned v' ∧ OwTo wx vx M2 w' v') := fun wx vx hx => by
        have hp := bput_any hx nq (by have := HWK.out.n.2; dsimp only at this; omega) rr (by omega)
        rw [← hM2]
        unfold balV at hp
        unfold balBy
        rw [Int.toNat_natCast, ← List.append_assoc]
        exact hp
      have HC3 : Hid (∀ (wx : World) (vx : Value), Ow wx vx M2 → Calls Try.prog 54 #[vx, .string (strOfNums vl)] wx fun e w' => ∃ v', e = .returned v' ∧ OwTo wx vx (M2 ++ strBy vl) w' v') := fun wx vx hx =>
        wstr_of hx vl (HWK.out.val.1) (by have := HWK.out.val.2; dsimp only at this; omega) (by omega)
      clear hM1 hM2 hMl hM1l hM2l
      go_upto_region 5 with fail
      have hb5 := Blk.new wr 47 #[.int .u64 (sq : Int), .int .u64 (nq : Int), .int .u8 rr, .string (strOfNums vl)]
      have hw5 : Upd (fun _ => False) wr (wr.alloc (.cells #[.int .u64 (sq : Int), .int .u64 (nq : Int), .int .u8 rr, .string (strOfNums vl)] 47)) := (Upd.refl _ _).alloc _
      generalize wr.alloc (.cells #[.int .u64 (sq : Int), .int .u64 (nq : Int), .int .u8 rr, .string (strOfNums vl)] 47) = w5 at *
      have HB5 := Lib.hid hb5
      have HT5 := Lib.hid (HO2.out.1.still hw5)
      have hOB5 : ∀ k', Value.ownBlock (.slice Ar M.length cr) = some k' → k' ≠ wr.heap.size := fun k' hk' e => by have := (HO2.out.1.lt k' hk').2; omega
      have KS : Hid (∀ wx, Upd (fun b => Value.ownBlock (.slice Ar M.length cr) = some b) w5 wx → wx.cell? ⟨wr.heap.size, 0, none⟩ = some (.int .u64 (sq : Int)) ∧ wx.cell? ⟨wr.heap.size, 1, none⟩ = some (.int .u64 (nq : Int)) ∧ wx.cell? ⟨wr.heap.size, 2, none⟩ = some (.int .u8 rr) ∧ wx.cell? ⟨wr.heap.size, 3, none⟩ = some (.string (strOfNums vl))) := fun wx hu => by
        have hk := HB5.out.upd hu (fun h => hOB5 _ h rfl)
        exact ⟨hk.cell 0, hk.cell 1, hk.cell 2, hk.cell 3⟩
      have hks := KS.out w5 (Upd.refl _ _)
      obtain ⟨s0, s1, s2, s3⟩ := hks
      clear hb5 hw5 hOB5 e0 e1 e2 e3
      go_region_held3 (fun wx => wx.cell? ⟨wr.heap.size, 0, none⟩ = some (.int .u64 (sq : Int)) ∧ wx.cell? ⟨wr.heap.size, 1, none⟩ = some (.int .u64 (nq : Int)) ∧ wx.cell? ⟨wr.heap.size, 2, none⟩ = some (.int .u8 rr) ∧ wx.cell? ⟨wr.heap.size, 3, none⟩ = some (.string (strOfNums vl)))
        (first
          | exact ⟨s0, s1, s2, s3⟩
          | exact KS.out _ HQ1.out.2.1
          | exact KS.out _ HQ2.out.2.1
          | exact KS.out _ HQ3.out.2.1
          | fail)
        (first
          | (go_at_call 32
             have hq := (HT5.out.1.still (Upd.refl (fun _ => False) w5).drew).1
             (with_reducible refine (HC1.out _ _ hq).mono ?_)
             clear hq
             rintro e w6 ⟨v6, rfl, ho6⟩
             obtain ⟨A6, c6, rfl, _, _⟩ := ho6.1.shape
             have HQ1 := Lib.hid ((HT5.out.1.still (Upd.refl (fun _ => False) w5).drew).trans ho6)
             clear ho6)
          | (go_at_call 64
             have hq := HQ1.out.1
             (with_reducible refine (HC2.out _ _ hq).mono ?_)
             clear hq
             rintro e w7 ⟨v7, rfl, ho7⟩
             obtain ⟨A7, c7, rfl, _, _⟩ := ho7.1.shape
             have HQ2 := Lib.hid (HQ1.out.trans ho7)
             clear ho7)
          | (go_at_call 54
             have hq := HQ2.out.1
             (with_reducible refine (HC3.out _ _ hq).mono ?_)
             clear hq
             rintro e w8 ⟨v8, rfl, ho8⟩
             have HQ3 := Lib.hid (HQ2.out.trans ho8)
             clear ho8)
          | fail)
      all_goals
        go_wp2_with fail
        go_roundw
        case rel => exact ⟨k + 1, by omega, by go_num, by rw [HSN.out, HM.out]; exact (HO2.out.trans HT5.out).trans HQ3.out⟩
        case measure => simp [intOf]; omega
    · have hke : k = N := by omega
      subst hke
      rw [← HNN.out, List.take_of_length_le (Nat.le_refl _)] at ho
      have HO3 := Lib.hid ho
      clear ho
      go_wp2_with fail
      go_ret
      exact ⟨_, rfl, by rw [HRR.out]; exact HU0.out.trans HO3.out⟩

set_option maxRecDepth 100000 in
set_option maxHeartbeats 2000000 in
theorem it_put {w : World} {v : Value} {l : List Int} (h : Ow w v l) (m : Ms) (hw : WfM m) (Av Ai : Option Addr) (nv cv ni ci : Nat) (hl : l.length ≤ 1000000) {G : Nat → Prop} (hv : Sl w G 2 (.slice Ai ni ci) m.items.length (m.items.flatMap itCells)) (hGv : ∀ g, G g → v.ownBlock ≠ some g) (hb : (m.items.flatMap itBy).length ≤ 50000000) :
    Calls Try.prog 91 #[v, msV m (.slice Av nv cv) (.slice Ai ni ci)] w fun e w' => ∃ v', e = .returned v' ∧ OwTo w v (l ++ ptBy m .items) w' v' := by
  have HO := Lib.hid h
  obtain ⟨A, c, rfl, hnc, hcm⟩ := h.shape
  obtain ⟨kind, bn, br, base, slot, node, val, votes, items, ⟨client, seq, ckind, key, old, new, cset⟩, code, text⟩ := m
  obtain ⟨hll, hwf⟩ := hw.items
  unfold msV msCells ptBy
  dsimp only at hv hb hll hwf ⊢
  have hnn : ni = items.length := by
    obtain ⟨_, _, e, _⟩ := hv.shape
    simp only [Value.slice.injEq] at e
    exact e.2.1
  subst hnn
  have HLL := Lib.hid hll
  have HWF := Lib.hid hwf
  have HV := Lib.hid hv
  have HGV := Lib.hid hGv
  have HBB := Lib.hid hb
  obtain ⟨L0, hL0⟩ : ∃ L, l ++ numE items.length = L := ⟨_, rfl⟩
  obtain ⟨R, hR⟩ : ∃ R, l ++ (numE items.length ++ items.flatMap itBy) = R := ⟨_, rfl⟩
  rw [hR]
  have HRR : Hid (R = L0 ++ items.flatMap itBy) := by show _ = _; rw [← hR, ← hL0, List.append_assoc]
  have hE := numE_len items.length
  have hl0 : L0.length ≤ 1000010 := by rw [← hL0, List.length_append]; omega
  have HN : Hid (∀ (wx : World) (vx : Value), Ow wx vx l → Calls Try.prog 32 #[vx, .int .u64 (items.length : Int)] wx fun e w' => ∃ v', e = .returned v' ∧ OwTo wx vx L0 w' v') := fun wx vx hx => by
    rw [← hL0]; exact wnum_any hx items.length (by have := HLL.out; omega) (by omega)
  have HL0 := Lib.hid hl0
  obtain ⟨N, hN⟩ : ∃ N, items.length = N := ⟨_, rfl⟩
  have HNN := Lib.hid hN
  have hN6 : (N : Int) ≤ 1000000 := by rw [← hN]; omega
  have hwr : IntKind.u64.wrap (N : Int) = (N : Int) := IntWalk.u64_in _ ⟨by omega, by omega⟩
  have HCAP : Hid (N ≤ ci ∧ ci ≤ maxLen) := by
    obtain ⟨_, c', e, h1, h2⟩ := hv.shape
    simp only [Value.slice.injEq] at e
    rw [← hN, e.2.2]; exact ⟨h1, h2⟩
  rw [hN] at HN HV hll
  rw [hN]
  clear h hw hv hGv hb hR hL0 hl0 hll hwf hE hN hnc hcm
  go_enter Try.func91, Try.ntmps91
  go_upto_region 1 with fail
  have hb0 := Blk.new w 34 #[.int .u8 kind, .int .u64 bn, .int .u8 br, .int .u64 base, .int .u64 slot, .int .u8 node, .string (strOfNums val), .slice Av nv cv, .slice Ai N ci, .int .u8 client, .int .u32 seq, .int .u8 ckind, .string (strOfNums key), .string (strOfNums old), .string (strOfNums new), .int .u8 cset, .int .u8 code, .string (strOfNums text)]
  have hw0 : Upd (fun _ => False) w (w.alloc (.cells #[.int .u8 kind, .int .u64 bn, .int .u8 br, .int .u64 base, .int .u64 slot, .int .u8 node, .string (strOfNums val), .slice Av nv cv, .slice Ai N ci, .int .u8 client, .int .u32 seq, .int .u8 ckind, .string (strOfNums key), .string (strOfNums old), .string (strOfNums new), .int .u8 cset, .int .u8 code, .string (strOfNums text)] 34)) := (Upd.refl _ _).alloc _
  generalize w.alloc (.cells #[.int .u8 kind, .int .u64 bn, .int .u8 br, .int .u64 base, .int .u64 slot, .int .u8 node, .string (strOfNums val), .slice Av nv cv, .slice Ai N ci, .int .u8 client, .int .u32 seq, .int .u8 ckind, .string (strOfNums key), .string (strOfNums old), .string (strOfNums new), .int .u8 cset, .int .u8 code, .string (strOfNums text)] 34) = w0 at *
  have HU0 := Lib.hid (HO.out.still hw0)
  have HW0 := Lib.hid hw0
  have HB0 := Lib.hid hb0
  have hzz : w0.cell? ⟨w.heap.size, 8, none⟩ = some (.slice Ai N ci) := hb0.cell 8
  have HOB : Hid (∀ k, Value.ownBlock (.slice A l.length c) = some k → k ≠ w.heap.size) := fun k hk e => by have := (HO.out.lt k hk).2; omega
  clear hb0 hw0
  go_wp2_with fail
  have hq := HU0.out.1
  (with_reducible refine (HN.out _ _ hq).mono ?_)
  clear hq
  rintro e w1 ⟨v1, rfl, ho1⟩
  have HO1 := Lib.hid (HU0.out.1.to.trans ho1)
  have hzz : w1.cell? ⟨w.heap.size, 8, none⟩ = some (.slice Ai N ci) := (HB0.out.upd ho1.2.1 (fun h => HOB.out _ h rfl)).cell 8
  clear ho1 hwr
  go_wp2_with fail
  clear hzz
  go_loopw [0, 16] (fun vr i wr => ∃ k : Nat, k ≤ N ∧ i = .int .i64 k ∧ OwTo w0 (.slice A l.length c) (L0 ++ (items.take k).flatMap itBy) wr vr) (fun _ i _ => N - (intOf i).toNat)
  case atStart => exact ⟨0, Nat.zero_le _, rfl, by simpa using HO1.out⟩
  case round =>
    obtain ⟨k, hk, rfl, ho⟩ := hrel
    by_cases hlt : k < N
    · have hkl : k < items.length := by rw [HNN.out]; exact hlt
      obtain ⟨b, o, rfl, hc⟩ := HV.out.row_ (F := fun g => Value.ownBlock (.slice A l.length c) = some g) ((HW0.out.mono (fun _ _ h => h.elim)).trans ho.2.1 (fun _ _ h => h)) (fun g hg h => HGV.out g hg h) hlt (it_at items k hkl) rfl
      have hwk := HWF.out items[k] (List.getElem_mem hkl)
      have hsn : (items.take (k + 1)).flatMap itBy = (items.take k).flatMap itBy ++ itBy items[k] := by rw [List.take_succ_eq_append_getElem hkl, List.flatMap_append]; simp
      have hle := flat_take_len itBy items k
      have hle2 := flat_take_len itBy items (k + 1)
      rw [hsn, List.length_append] at hle2
      obtain ⟨M, hM⟩ : ∃ M, L0 ++ (items.take k).flatMap itBy = M := ⟨_, rfl⟩
      have hMl : M.length + (itBy items[k]).length ≤ 60000000 := by
        rw [← hM, List.length_append]
        have := HBB.out
        have := HL0.out
        omega
      have HSN : Hid (L0 ++ (items.take (k + 1)).flatMap itBy = M ++ itBy items[k]) := by show _ = _; rw [hsn, ← List.append_assoc, hM]
      rw [hM] at ho
      clear hM hsn hle hle2
      obtain ⟨x, hx⟩ : ∃ x, items[k] = x := ⟨_, rfl⟩
      rw [hx] at hc hwk hMl HSN
      obtain ⟨sl, vl⟩ := x
      unfold itBy at hMl
      dsimp only at hMl
      have e0 : wr.cell? ⟨b, o + k * 2, none⟩ = some (.int .u64 sl) := hc 0 _ rfl
      have e1 : wr.cell? ⟨b, o + k * 2 + 1, none⟩ = some (.string (strOfNums vl)) := hc 1 _ rfl
      obtain ⟨Ar, cr, rfl, _, _⟩ := ho.1.shape
      have HO2 := Lib.hid ho
      have HWK := Lib.hid hwk
      clear hc hx ho hwk
      obtain ⟨sq, rfl⟩ : ∃ sq : Nat, sl = (sq : Int) := ⟨sl.toNat, by have := HWK.out.slot.1; dsimp only at this; omega⟩
      obtain ⟨M1, hM1⟩ : ∃ M', M ++ numE sq = M' := ⟨_, rfl⟩
      rw [Int.toNat_natCast, List.length_append] at hMl
      have hM1l : M1.length ≤ 60000000 := by rw [← hM1, List.length_append]; omega
      have HM : Hid (M ++ itBy ⟨(sq : Int), vl⟩ = M1 ++ strBy vl) := by
        show _ = _
        unfold itBy
        dsimp only
        rw [Int.toNat_natCast, ← hM1]
        simp only [List.append_assoc]
      have HC1 : Hid (∀ (wx : World) (vx : Value), Ow wx vx M → Calls Try.prog 32 #[vx, .int .u64 (sq : Int)] wx fun e w' => ∃ v', e = .returned v' ∧ OwTo wx vx M1 w' v') := fun wx vx hx => by
        rw [← hM1]; exact wnum_any hx sq (by have := HWK.out.slot.2; dsimp only at this; omega) (by omega)
      have HC3 : Hid (∀ (wx : World) (vx : Value), Ow wx vx M1 → Calls Try.prog 54 #[vx, .string (strOfNums vl)] wx fun e w' => ∃ v', e = .returned v' ∧ OwTo wx vx (M1 ++ strBy vl) w' v') := fun wx vx hx =>
        wstr_of hx vl (HWK.out.val.1) (by have := HWK.out.val.2; dsimp only at this; omega) (by omega)
      clear hM1 hMl hM1l
      go_upto_region 5 with fail
      have hb5 := Blk.new wr 49 #[.int .u64 (sq : Int), .string (strOfNums vl)]
      have hw5 : Upd (fun _ => False) wr (wr.alloc (.cells #[.int .u64 (sq : Int), .string (strOfNums vl)] 49)) := (Upd.refl _ _).alloc _
      generalize wr.alloc (.cells #[.int .u64 (sq : Int), .string (strOfNums vl)] 49) = w5 at *
      have HB5 := Lib.hid hb5
      have HT5 := Lib.hid (HO2.out.1.still hw5)
      have hOB5 : ∀ k', Value.ownBlock (.slice Ar M.length cr) = some k' → k' ≠ wr.heap.size := fun k' hk' e => by have := (HO2.out.1.lt k' hk').2; omega
      have KS : Hid (∀ wx, Upd (fun b => Value.ownBlock (.slice Ar M.length cr) = some b) w5 wx → wx.cell? ⟨wr.heap.size, 0, none⟩ = some (.int .u64 (sq : Int)) ∧ wx.cell? ⟨wr.heap.size, 1, none⟩ = some (.string (strOfNums vl))) := fun wx hu => by
        have hk := HB5.out.upd hu (fun h => hOB5 _ h rfl)
        exact ⟨hk.cell 0, hk.cell 1⟩
      have hks := KS.out w5 (Upd.refl _ _)
      obtain ⟨s0, s1⟩ := hks
      clear hb5 hw5 hOB5 e0 e1
      go_region_held3 (fun wx => wx.cell? ⟨wr.heap.size, 0, none⟩ = some (.int .u64 (sq : Int)) ∧ wx.cell? ⟨wr.heap.size, 1, none⟩ = some (.string (strOfNums vl)))
        (first
          | exact ⟨s0, s1⟩
          | exact KS.out _ HQ1.out.2.1
          | exact KS.out _ HQ3.out.2.1
          | fail)
        (first
          | (go_at_call 32
             have hq := (HT5.out.1.still (Upd.refl (fun _ => False) w5).drew).1
             (with_reducible refine (HC1.out _ _ hq).mono ?_)
             clear hq
             rintro e w6 ⟨v6, rfl, ho6⟩
             obtain ⟨A6, c6, rfl, _, _⟩ := ho6.1.shape
             have HQ1 := Lib.hid ((HT5.out.1.still (Upd.refl (fun _ => False) w5).drew).trans ho6)
             clear ho6)
          | (go_at_call 54
             have hq := HQ1.out.1
             (with_reducible refine (HC3.out _ _ hq).mono ?_)
             clear hq
             rintro e w8 ⟨v8, rfl, ho8⟩
             have HQ3 := Lib.hid (HQ1.out.trans ho8)
             clear ho8)
          | fail)
      all_goals
        go_wp2_with fail
        go_roundw
        case rel => exact ⟨k + 1, by omega, by go_num, by rw [HSN.out, HM.out]; exact (HO2.out.trans HT5.out).trans HQ3.out⟩
        case measure => simp [intOf]; omega
    · have hke : k = N := by omega
      subst hke
      rw [← HNN.out, List.take_of_length_le (Nat.le_refl _)] at ho
      have HO3 := Lib.hid ho
      clear ho
      go_wp2_with fail
      go_ret
      exact ⟨_, rfl, by rw [HRR.out]; exact HU0.out.trans HO3.out⟩

end Go.Proofs.Ytaielcokfpodaaa
