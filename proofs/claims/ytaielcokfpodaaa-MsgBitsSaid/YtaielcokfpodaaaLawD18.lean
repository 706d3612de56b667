/-
  Layer 18: MsgOwn. Conditions: none.
-/
import Derived.Test.YtaielcokfpodaaaLawA18
import Derived.Test.YtaielcokfpodaaaLawB18
import Derived.Test.YtaielcokfpodaaaLawC18
namespace Go.Proofs.Ytaielcokfpodaaa
open Go.RowKit

theorem flat_bd {α : Type} {f : α → List Int} {c : Nat} : ∀ (l : List α), (∀ v ∈ l, (f v).length ≤ c) → (l.flatMap f).length ≤ l.length * c
  | [], _ => by simp
  | v :: l, h => by
    have h1 := h v (List.mem_cons_self ..)
    have h2 := flat_bd l (fun x hx => h x (List.mem_cons_of_mem _ hx))
    rw [List.flatMap_cons, List.length_append, List.length_cons, Nat.succ_mul]
    omega
/-- What is not too great is well formed. -/
theorem small_ok {m : Ms} (h : RawM m) (hg : greatM m = false) : WfM m ∧ TxtM m ∧ (m.votes.flatMap vtBy).length ≤ 50000000 ∧ (m.items.flatMap itBy).length ≤ 50000000 := by
  unfold greatM gr09 at hg
  simp only [Bool.or_eq_false_iff, decide_eq_false_iff_not, List.any_eq_false, decide_eq_true_eq] at hg
  obtain ⟨⟨⟨⟨⟨⟨g1, g2⟩, g3⟩, g4⟩, ⟨⟨g5, g6⟩, g7⟩⟩, g8⟩, g9⟩ := hg
  refine ⟨⟨h.kind, h.bn, h.br, h.base, h.slot, h.node, ⟨h.val.1, by omega⟩, ⟨by omega, fun v hv => ?_⟩, ⟨by omega, fun v hv => ?_⟩, h.cmd.wf, h.code, h.text.1⟩, ⟨by omega, by omega, by omega, by omega⟩, ?_, ?_⟩
  · have q := h.votes.2 v hv
    have := g8 v hv
    exact ⟨q.slot, q.n, q.r, q.val.1, by omega⟩
  · have q := h.items.2 v hv
    have := g9 v hv
    exact ⟨q.slot, q.val.1, by omega⟩
  · have := flat_bd (f := vtBy) (c := 400) m.votes (fun v hv => by
      have := g8 v hv
      have a1 := (numE_len v.slot.toNat).2
      have a2 := (numE_len v.n.toNat).2
      have a3 := (numE_len v.val.length).2
      simp only [vtBy, balBy, strBy, List.length_append, List.length_cons, List.length_nil]
      omega)
    omega
  · have := flat_bd (f := itBy) (c := 400) m.items (fun v hv => by
      have := g9 v hv
      have a1 := (numE_len v.slot.toNat).2
      have a3 := (numE_len v.val.length).2
      simp only [itBy, strBy, List.length_append]
      omega)
    omega
/-- What Put tells: the error is none just for a message that may be, short enough. -/
theorem putM_err {m : Ms} (h : (putM m).2 = 0) : mayM m = true ∧ (insM m).length ≤ 65536 ∧ putM m = (frameB (insM m), 0) := by
  unfold putM at *
  cases hm : mayM m
  · rw [hm] at h
    simp at h
  · rw [hm] at h
    simp only [if_true] at h ⊢
    by_cases hl : (insM m).length ≤ 65536
    · rw [if_pos hl]
      exact ⟨trivial, hl, rfl⟩
    · rw [if_neg hl] at h
      simp at h

/-- The zero of votes, of items. -/
theorem Upd.set4 {F : Nat → Prop} {w wx : World} {g : Nat} (hF : F g) (h : Upd F w wx) (i : Nat) (u : Value) : Upd F w (wx.setCell ⟨g, i, none⟩ u) := Upd.setCell (F := F) h (p := ⟨g, i, none⟩) (.inl hF) _
/-- A row that may be written, between two bounds. -/
def RowAt (lo hi : Nat) (w : World) (A : Option Addr) (n : Nat) (t : TypeId) (size : Nat) : Prop := 0 < n → ∃ g cs, A = some ⟨g, 0, none⟩ ∧ lo ≤ g ∧ g < hi ∧ Blk w g t cs ∧ n * size ≤ cs.size
theorem RowAt.upd {lo hi : Nat} {w w' : World} {A : Option Addr} {n : Nat} {t : TypeId} {size : Nat} {F : Nat → Prop} (h : RowAt lo hi w A n t size) (hu : Upd F w w') (hd : ∀ g cs, Blk w g t cs → lo ≤ g → g < hi → ¬ F g) : RowAt lo hi w' A n t size := fun hn => by
  obtain ⟨g, cs, e, h1, h2, hb, hs⟩ := h hn
  exact ⟨g, cs, e, h1, h2, hb.upd hu (hd g cs hb h1 h2), hs⟩
theorem own_row {lo : Nat} {w : World} {e : TypeId} {size : Nat} {v : Value} {n : Nat} {xs : List Value} (h : w.ownsRow 0 e size v n xs) (hlo : ∀ j, v.ownBlock = some j → lo ≤ j) : ∃ A cap, v = .slice A n cap ∧ n ≤ cap ∧ cap ≤ maxLen ∧ RowAt lo w.heap.size w A n e size := by
  rcases h.2 with ⟨rfl, hx⟩ | ⟨g, cap, cur, rfl, _, hg, hnc, hcm, hcs, htake⟩
  · subst hx
    exact ⟨none, 0, rfl, Nat.le_refl _, by simp [maxLen], fun h => absurd h (by omega)⟩
  · refine ⟨_, cap, rfl, hnc, hcm, fun _ => ⟨g, cur, rfl, hlo g (by simp [Value.ownBlock]), Blk.lt hg, hg, ?_⟩⟩
    rw [hcs]
    exact Nat.mul_le_mul_right _ hnc
set_option maxRecDepth 100000 in
set_option maxHeartbeats 16000000 in
theorem msgOwn_walk (a0 : Ms) (vv0 vi0 : Value) (w : World) (h0 : RawM a0) (l0 : Lists w (fun k => k < w.heap.size) a0 vv0 vi0) :
    Calls Try.prog 6 #[msV a0 vv0 vi0] w fun e w' => e = .returned (.bool true) ∧ Below w.heap.size w w' := by
  have HWK := Lib.hid (fun wx => wakes18_true wx)
  have HGR := Lib.hid (fun (wx : World) (hu : Upd (fun _ => False) w wx) => great_any a0 h0 (l0.upd hu (fun _ _ h => h)))
  obtain ⟨Av, nv, cv, Ai, ni, ci, rfl, rfl⟩ := l0.shape
  have HL0 := Lib.hid l0
  have HSM := Lib.hid (fun hg => small_ok h0 hg)
  unfold msV msCells at HGR ⊢
  obtain ⟨gb, hgb⟩ : ∃ b, greatM a0 = b := ⟨_, rfl⟩
  rw [hgb] at HGR HSM
  clear h0 l0 hgb
  go_enter Try.func6, Try.ntmps6
  go_upto_region 1 with fail
  have hb1 : Blk (w.alloc (.cells (msCells a0 (.slice Av nv cv) (.slice Ai ni ci)) 34)) w.heap.size 34 (msCells a0 (.slice Av nv cv) (.slice Ai ni ci)) := Blk.new w 34 _
  have hu1 : Upd (fun _ => False) w (w.alloc (.cells (msCells a0 (.slice Av nv cv) (.slice Ai ni ci)) 34)) := (Upd.refl _ _).alloc _
  unfold msCells at hb1 hu1
  generalize w.alloc (.cells #[.int .u8 a0.kind, .int .u64 a0.bn, .int .u8 a0.br, .int .u64 a0.base, .int .u64 a0.slot, .int .u8 a0.node, .string (strOfNums a0.val), .slice Av nv cv, .slice Ai ni ci, .int .u8 a0.cmd.client, .int .u32 a0.cmd.seq, .int .u8 a0.cmd.kind, .string (strOfNums a0.cmd.key), .string (strOfNums a0.cmd.old), .string (strOfNums a0.cmd.new), .int .u8 a0.cmd.set, .int .u8 a0.code, .string (strOfNums a0.text)] 34) = w1 at *
  have HB1 := Lib.hid hb1
  have HU1 := Lib.hid hu1
  clear hu1
  go_wp2_with (first | (refine wpList_load_row rfl 34 (.tmp 1) (by rfl) w.heap.size (by rfl) 34 _ (0, 0) _ hb1 Try.underlying34 rfl (by kernel_rfl) ?_) | fail)
  clear hb1
  refine (HGR.out _ HU1.out).mono ?_
  rintro e w2 ⟨rfl, hu2⟩
  have HU2 := Lib.hid (HU1.out.trans hu2 (fun _ _ h => h))
  have HB2 := Lib.hid (HB1.out.upd hu2 id)
  clear hu2
  cases gb
  case true =>
    go_wp2_with fail
    refine (HWK.out _).mono ?_
    rintro e w3 ⟨rfl, hu3⟩
    have HU3 := Lib.hid (HU2.out.trans hu3 (fun _ _ h => h))
    clear hu3
    go_wp2_with fail
    go_ret
    exact ⟨rfl, HU3.out.below⟩
  obtain ⟨hwf, htx, hlb⟩ := HSM.out rfl
  have HP := Lib.hid (fun (wx : World) (hu : Upd (fun _ => False) w wx) => mput_any a0 hwf htx (HL0.out.upd hu (fun _ _ h => h)) hlb)
  have HWF := Lib.hid hwf
  obtain ⟨X, hX⟩ : ∃ X, putM a0 = X := ⟨_, rfl⟩
  have HPE := Lib.hid (fun h => putM_err (m := a0) h)
  rw [hX] at HP HPE
  obtain ⟨L, E⟩ := X
  unfold msV msCells at HP
  simp only at HP HPE
  clear HSM hwf htx hlb hX
  have hrow := HB2.out
  unfold msCells at hrow
  go_wp2_with (first | (refine wpList_load_row rfl 34 (.tmp 1) (by rfl) w.heap.size (by rfl) 34 _ (0, 0) _ hrow Try.underlying34 rfl (by kernel_rfl) ?_) | fail)
  clear hrow
  refine (HP.out _ HU2.out).mono ?_
  rintro e w3 ⟨rfl, hu3⟩
  have HU3 := Lib.hid (HU2.out.trans hu3 (fun _ _ h => h))
  have HB3 := Lib.hid (HB2.out.upd hu3 id)
  clear hu3
  by_cases hE : E = 0
  case neg =>
    have hne : (E != 0) = true := bne_iff_ne.2 hE
    clear hE
    go_wp2_with fail
    refine (HWK.out _).mono ?_
    rintro e w4 ⟨rfl, hu4⟩
    have HU4 := Lib.hid (HU3.out.trans hu4 (fun _ _ h => h))
    clear hu4
    go_wp2_with fail
    go_ret
    exact ⟨rfl, HU4.out.below⟩
  subst hE
  obtain ⟨p1, p2, p3⟩ := HPE.out rfl
  have hL : L = frameB (insM a0) := by
    simp only [Prod.mk.injEq, and_true] at p3
    exact p3
  have htk := takeM_put HWF.out p1 p2
  have hby := frameB_byt _ (insM_byt HWF.out)
  have hle : L.length ≤ 1000000000 := by
    rw [hL]
    have := (numE_len (insM a0).length).2
    simp only [frameB, List.length_append, sumB_len]
    omega
  rw [← hL] at htk hby
  have HT := Lib.hid (fun wx => mtake_any L hby hle wx)
  rw [htk] at HT
  clear p1 p2 p3 hL htk hby hle HPE HP
  go_wp2_with fail
  refine (HT.out _).mono ?_
  rintro e w4 ⟨xv, xi, rfl, hu4, hox⟩
  have HS34 := Lib.hid hu4.size
  have HU4 := Lib.hid (HU3.out.trans hu4 (fun _ _ h => h))
  have HB4 := Lib.hid (HB3.out.upd hu4 id)
  have hwv := HWF.out.votes.1
  have hwi := HWF.out.items.1
  obtain ⟨N1, hN1⟩ : ∃ N, a0.votes.length = N := ⟨_, rfl⟩
  obtain ⟨N2, hN2⟩ : ∃ N, a0.items.length = N := ⟨_, rfl⟩
  obtain ⟨Xv, xcv, rfl, xv1, xv2, xv3⟩ := own_row hox.votes hox.newv
  obtain ⟨Xi, xci, rfl, xi1, xi2, xi3⟩ := own_row hox.items hox.newi
  rw [hN1] at xv1 xv3 hwv ⊢
  rw [hN2] at xi1 xi3 hwi ⊢
  have HRV := Lib.hid xv3
  have HRI := Lib.hid xi3
  unfold maxLen at xv2 xi2
  have hn1 : (N1 : Int) ≤ 1000000 := by omega
  have hn2 : (N2 : Int) ≤ 1000000 := by omega
  clear hu4 hox xv3 xi3 hN1 hN2 hwv hwi
  have hmsv : msV (a0, (0 : Int)).1 (.slice Xv N1 xcv) (.slice Xi N2 xci) = .agg (msCells a0 (.slice Xv N1 xcv) (.slice Xi N2 xci)) := rfl
  rw [hmsv]
  clear hmsv
  go_upto_region 7 with (first | (refine wpList_store_row rfl 34 (.tmp 5) (.tmp 25) (by rfl) w4.heap.size (msCells a0 (.slice Xv N1 xcv) (.slice Xi N2 xci)) (by rfl) (by rfl) 34 #[.int .u8 0, .int .u64 0, .int .u8 0, .int .u64 0, .int .u64 0, .int .u8 0, .string { data := #[] }, .slice none 0 0, .slice none 0 0, .int .u8 0, .int .u32 0, .int .u8 0, .string { data := #[] }, .string { data := #[] }, .string { data := #[] }, .int .u8 0, .int .u8 0, .string { data := #[] }] (Blk.new w4 34 #[.int .u8 0, .int .u64 0, .int .u8 0, .int .u64 0, .int .u64 0, .int .u8 0, .string { data := #[] }, .slice none 0 0, .slice none 0 0, .int .u8 0, .int .u32 0, .int .u8 0, .string { data := #[] }, .string { data := #[] }, .string { data := #[] }, .int .u8 0, .int .u8 0, .string { data := #[] }]) (by kernel_rfl) rfl (msCells_one a0 Xv Xi N1 xcv N2 xci) ?_) | fail)
  obtain ⟨gx, hgx⟩ : ∃ g, g = w4.heap.size := ⟨_, rfl⟩
  obtain ⟨w5, hw5⟩ : ∃ w5, w5 = (w4.alloc (.cells #[.int .u8 0, .int .u64 0, .int .u8 0, .int .u64 0, .int .u64 0, .int .u8 0, .string { data := #[] }, .slice none 0 0, .slice none 0 0, .int .u8 0, .int .u32 0, .int .u8 0, .string { data := #[] }, .string { data := #[] }, .string { data := #[] }, .int .u8 0, .int .u8 0, .string { data := #[] }] 34)).setRow w4.heap.size (msCells a0 (.slice Xv N1 xcv) (.slice Xi N2 xci)) := ⟨_, rfl⟩
  rw [← hw5, ← hgx]
  have hb5 : Blk w5 gx 34 (msCells a0 (.slice Xv N1 xcv) (.slice Xi N2 xci)) := by rw [hw5, hgx]; exact Blk.setRow (Blk.new w4 34 #[.int .u8 0, .int .u64 0, .int .u8 0, .int .u64 0, .int .u64 0, .int .u8 0, .string { data := #[] }, .slice none 0 0, .slice none 0 0, .int .u8 0, .int .u32 0, .int .u8 0, .string { data := #[] }, .string { data := #[] }, .string { data := #[] }, .int .u8 0, .int .u8 0, .string { data := #[] }])
  have hu5 : Upd (fun _ => False) w4 w5 := by rw [hw5]; exact ((Upd.refl _ _).alloc _).setRow (.inr (Nat.le_refl _)) _
  have HX5 := Lib.hid hb5
  have HU45 := Lib.hid hu5
  have HU5 := Lib.hid (HU4.out.trans hu5 (fun _ _ h => h))
  have HB5 := Lib.hid (HB4.out.upd hu5 id)
  have HGX : Hid (gx = w4.heap.size) := hgx
  clear hw5 hgx hb5 hu5
  go_wp2_with fail
  refine (HT.out _).mono ?_
  rintro e w6 ⟨yv, yi, rfl, hu6, hoy⟩
  obtain ⟨Yv, ynv, ycv, Yi, yni, yci, rfl, rfl⟩ := hoy.lists.shape
  have HU56 := Lib.hid hu6
  have HU6 := Lib.hid (HU5.out.trans hu6 (fun _ _ h => h))
  have HB6 := Lib.hid (HB5.out.upd hu6 id)
  have HX6 := Lib.hid (HX5.out.upd hu6 id)
  have HOY := Lib.hid hoy
  clear hu6 hoy
  have hmsv : msV (a0, (0 : Int)).1 (.slice Yv ynv ycv) (.slice Yi yni yci) = .agg (msCells a0 (.slice Yv ynv ycv) (.slice Yi yni yci)) := rfl
  rw [hmsv]
  clear hmsv
  go_upto_region 8 with (first | (refine wpList_store_row rfl 34 (.tmp 7) (.tmp 30) (by rfl) w6.heap.size (msCells a0 (.slice Yv ynv ycv) (.slice Yi yni yci)) (by rfl) (by rfl) 34 #[.int .u8 0, .int .u64 0, .int .u8 0, .int .u64 0, .int .u64 0, .int .u8 0, .string { data := #[] }, .slice none 0 0, .slice none 0 0, .int .u8 0, .int .u32 0, .int .u8 0, .string { data := #[] }, .string { data := #[] }, .string { data := #[] }, .int .u8 0, .int .u8 0, .string { data := #[] }] (Blk.new w6 34 #[.int .u8 0, .int .u64 0, .int .u8 0, .int .u64 0, .int .u64 0, .int .u8 0, .string { data := #[] }, .slice none 0 0, .slice none 0 0, .int .u8 0, .int .u32 0, .int .u8 0, .string { data := #[] }, .string { data := #[] }, .string { data := #[] }, .int .u8 0, .int .u8 0, .string { data := #[] }]) (by kernel_rfl) rfl (msCells_one a0 Yv Yi ynv ycv yni yci) ?_) | fail)
  obtain ⟨gy, hgy⟩ : ∃ g, g = w6.heap.size := ⟨_, rfl⟩
  obtain ⟨w7, hw7⟩ : ∃ w7, w7 = (w6.alloc (.cells #[.int .u8 0, .int .u64 0, .int .u8 0, .int .u64 0, .int .u64 0, .int .u8 0, .string { data := #[] }, .slice none 0 0, .slice none 0 0, .int .u8 0, .int .u32 0, .int .u8 0, .string { data := #[] }, .string { data := #[] }, .string { data := #[] }, .int .u8 0, .int .u8 0, .string { data := #[] }] 34)).setRow w6.heap.size (msCells a0 (.slice Yv ynv ycv) (.slice Yi yni yci)) := ⟨_, rfl⟩
  rw [← hw7, ← hgy]
  have hb7 : Blk w7 gy 34 (msCells a0 (.slice Yv ynv ycv) (.slice Yi yni yci)) := by rw [hw7, hgy]; exact Blk.setRow (Blk.new w6 34 #[.int .u8 0, .int .u64 0, .int .u8 0, .int .u64 0, .int .u64 0, .int .u8 0, .string { data := #[] }, .slice none 0 0, .slice none 0 0, .int .u8 0, .int .u32 0, .int .u8 0, .string { data := #[] }, .string { data := #[] }, .string { data := #[] }, .int .u8 0, .int .u8 0, .string { data := #[] }])
  have hu7 : Upd (fun _ => False) w6 w7 := by rw [hw7]; exact ((Upd.refl _ _).alloc _).setRow (.inr (Nat.le_refl _)) _
  have HY7 := Lib.hid hb7
  have HU7 := Lib.hid (HU6.out.trans hu7 (fun _ _ h => h))
  have HB7 := Lib.hid (HB6.out.upd hu7 id)
  have HX7 := Lib.hid (HX6.out.upd hu7 id)
  have HOY7 := Lib.hid (HOY.out.upd hu7 (fun _ _ => id))
  have HU47 := Lib.hid ((HU45.out.trans HU56.out (fun _ _ h => h)).trans hu7 (fun _ _ h => h))
  have HGY : Hid (gy = w6.heap.size) := hgy
  have HRV7 := Lib.hid (HRV.out.upd HU47.out (fun _ _ _ _ _ => id))
  have HRI7 := Lib.hid (HRI.out.upd HU47.out (fun _ _ _ _ _ => id))
  clear hw7 hgy hb7 hu7
  go_wp2_with fail
  go_loopw [9] (fun i wr => ∃ k : Nat, k ≤ N1 ∧ i = .int .i64 k ∧ Upd (fun j => w3.heap.size ≤ j ∧ j < w4.heap.size) w7 wr ∧ RowAt w3.heap.size w4.heap.size wr Xv N1 47 4 ∧ RowAt w3.heap.size w4.heap.size wr Xi N2 49 2) (fun i _ => N1 - (intOf i).toNat)
  case atStart => exact ⟨0, Nat.zero_le _, rfl, Upd.refl _ _, HRV7.out, HRI7.out⟩
  case round =>
    obtain ⟨k, hk, rfl, hu, hrv, hri⟩ := hrel
    have z7 : wr.cell? ⟨gx, 7, none⟩ = some (.slice Xv N1 xcv) := (HX7.out.upd hu (by have := HGX.out; omega)).cell 7
    have HU := Lib.hid hu
    have HRVk := Lib.hid hrv
    have HRIk := Lib.hid hri
    clear hu hrv hri
    by_cases hlt : k < N1
    · obtain ⟨g, cs, rfl, g1, g2, hb, hsz⟩ := HRVk.out (by omega)
      have q0 : k * 4 < cs.size := by omega
      have q1 : k * 4 + 1 < cs.size := by omega
      have q2 : k * 4 + 2 < cs.size := by omega
      have q3 : k * 4 + 3 < cs.size := by omega
      have c0 : wr.cell? ⟨g, k * 4, none⟩ = some cs[k * 4] := (hb.cell (k * 4)).trans (Array.getElem?_eq_getElem q0)
      have c1 : wr.cell? ⟨g, k * 4 + 1, none⟩ = some cs[k * 4 + 1] := (hb.cell (k * 4 + 1)).trans (Array.getElem?_eq_getElem q1)
      have c2 : wr.cell? ⟨g, k * 4 + 2, none⟩ = some cs[k * 4 + 2] := (hb.cell (k * 4 + 2)).trans (Array.getElem?_eq_getElem q2)
      have c3 : wr.cell? ⟨g, k * 4 + 3, none⟩ = some cs[k * 4 + 3] := (hb.cell (k * 4 + 3)).trans (Array.getElem?_eq_getElem q3)
      have d0 := hb.frozen (k * 4)
      have d1 := hb.frozen (k * 4 + 1)
      have d2 := hb.frozen (k * 4 + 2)
      have d3 := hb.frozen (k * 4 + 3)
      have HN : Hid (∃ w9, w9 = (((wr.setCell ⟨g, k * 4, none⟩ (.int .u64 0)).setCell ⟨g, k * 4 + 1, none⟩ (.int .u64 0)).setCell ⟨g, k * 4 + 2, none⟩ (.int .u8 0)).setCell ⟨g, k * 4 + 3, none⟩ (.string { data := #[] }) ∧ Upd (fun j => j = g) wr w9 ∧ RowAt w3.heap.size w4.heap.size w9 (some ⟨g, 0, none⟩) N1 47 4) := by
        refine ⟨_, rfl, Upd.set4 (F := fun j => j = g) rfl (Upd.set4 (F := fun j => j = g) rfl (Upd.set4 (F := fun j => j = g) rfl (Upd.set4 (F := fun j => j = g) rfl (Upd.refl _ _) _ _) _ _) _ _) _ _, fun _ => ⟨g, _, rfl, g1, g2, (((hb.set_ (k * 4) (.int .u64 0)).set_ (k * 4 + 1) (.int .u64 0)).set_ (k * 4 + 2) (.int .u8 0)).set_ (k * 4 + 3) (.string { data := #[] }), ?_⟩⟩
        simp only [Array.size_setIfInBounds]
        exact hsz
      have HBG := Lib.hid hb
      have HG : Hid (w3.heap.size ≤ g ∧ g < w4.heap.size) := ⟨g1, g2⟩
      clear hsz hb g1 g2
      generalize cs[k * 4] = x0 at *
      generalize cs[k * 4 + 1] = x1 at *
      generalize cs[k * 4 + 2] = x2 at *
      generalize cs[k * 4 + 3] = x3 at *
      clear q0 q1 q2 q3
      go_wp2_with fail
      obtain ⟨w9, hw9, hu9, hr9⟩ := HN.out
      rw [← hw9]
      have HX9 : Hid (Upd (fun j => w3.heap.size ≤ j ∧ j < w4.heap.size) w7 w9) := HU.out.trans hu9 (fun i hi e => by have := HG.out; omega)
      have HI9 : Hid (RowAt w3.heap.size w4.heap.size w9 Xi N2 49 2) := HRIk.out.upd hu9 (fun g' cs' hb' _ _ e => Blk.ne_ hb' HBG.out (by decide) e)
      have HV9 := Lib.hid hr9
      clear hw9 hu9 hr9 HN c0 c1 c2 c3 d0 d1 d2 d3 z7
      go_wp2_with fail
      go_roundw
      case rel => exact ⟨k + 1, by omega, by go_num, HX9.out, HV9.out, HI9.out⟩
      case measure => simp [intOf]; omega
    · have hke : k = N1 := by omega
      subst hke
      clear hlt hk HRVk
      obtain ⟨wo, rfl⟩ : ∃ wo : World, wo = wr := ⟨_, rfl⟩
      have HUo := HU
      have HRIo := HRIk
      clear HU HRIk
      go_wp2_with fail
      clear z7
      go_loopw [10] (fun i wr => ∃ j : Nat, j ≤ N2 ∧ i = .int .i64 j ∧ Upd (fun j => w3.heap.size ≤ j ∧ j < w4.heap.size) w7 wr ∧ RowAt w3.heap.size w4.heap.size wr Xi N2 49 2) (fun i _ => N2 - (intOf i).toNat)
      case atStart => exact ⟨0, Nat.zero_le _, rfl, HUo.out, HRIo.out⟩
      case round =>
        obtain ⟨j, hj, rfl, hu, hri⟩ := hrel
        have z8 : wr.cell? ⟨gx, 8, none⟩ = some (.slice Xi N2 xci) := (HX7.out.upd hu (by have := HGX.out; omega)).cell 8
        have HU := Lib.hid hu
        have HRIk := Lib.hid hri
        clear hu hri
        by_cases hlt : j < N2
        · obtain ⟨g, cs, rfl, g1, g2, hb, hsz⟩ := HRIk.out (by omega)
          have q0 : j * 2 < cs.size := by omega
          have q1 : j * 2 + 1 < cs.size := by omega
          have c0 : wr.cell? ⟨g, j * 2, none⟩ = some cs[j * 2] := (hb.cell (j * 2)).trans (Array.getElem?_eq_getElem q0)
          have c1 : wr.cell? ⟨g, j * 2 + 1, none⟩ = some cs[j * 2 + 1] := (hb.cell (j * 2 + 1)).trans (Array.getElem?_eq_getElem q1)
          have d0 := hb.frozen (j * 2)
          have d1 := hb.frozen (j * 2 + 1)
          have HN : Hid (∃ w9, w9 = (wr.setCell ⟨g, j * 2, none⟩ (.int .u64 0)).setCell ⟨g, j * 2 + 1, none⟩ (.string { data := #[] }) ∧ Upd (fun j => j = g) wr w9 ∧ RowAt w3.heap.size w4.heap.size w9 (some ⟨g, 0, none⟩) N2 49 2) := by
            refine ⟨_, rfl, Upd.set4 (F := fun j => j = g) rfl (Upd.set4 (F := fun j => j = g) rfl (Upd.refl _ _) _ _) _ _, fun _ => ⟨g, _, rfl, g1, g2, (hb.set_ (j * 2) (.int .u64 0)).set_ (j * 2 + 1) (.string { data := #[] }), ?_⟩⟩
            simp only [Array.size_setIfInBounds]
            exact hsz
          have HG : Hid (w3.heap.size ≤ g ∧ g < w4.heap.size) := ⟨g1, g2⟩
          clear hsz hb g1 g2
          generalize cs[j * 2] = x0 at *
          generalize cs[j * 2 + 1] = x1 at *
          clear q0 q1
          go_wp2_with fail
          obtain ⟨w9, hw9, hu9, hr9⟩ := HN.out
          rw [← hw9]
          have HX9 : Hid (Upd (fun j => w3.heap.size ≤ j ∧ j < w4.heap.size) w7 w9) := HU.out.trans hu9 (fun i hi e => by have := HG.out; omega)
          have HV9 := Lib.hid hr9
          clear hw9 hu9 hr9 HN c0 c1 d0 d1 z8
          go_wp2_with fail
          go_roundw
          case rel => exact ⟨j + 1, by omega, by go_num, HX9.out, HV9.out⟩
          case measure => simp [intOf]; omega
        · have hje : j = N2 := by omega
          subst hje
          clear hlt hj HRIk
          have s3 := HB3.out.lt
          have s4 := HS34.out
          have s5 := HU45.out.size
          have s6 := HU56.out.size
          have HBE : Hid (Blk wr w.heap.size 34 (msCells a0 (.slice Av nv cv) (.slice Ai ni ci))) := HB7.out.upd HU.out (by omega)
          have HYE : Hid (Blk wr gy 34 (msCells a0 (.slice Yv ynv ycv) (.slice Yi yni yci))) := HY7.out.upd HU.out (by have := HGY.out; omega)
          have HUE : Hid (Upd (fun _ => False) w wr) := HU7.out.trans HU.out (fun i hi e => by omega)
          have HLA : Hid (Lists wr (fun k => k < w.heap.size) a0 (.slice Av nv cv) (.slice Ai ni ci)) := (HL0.out.upd HU7.out (fun _ _ h => h)).upd HU.out (fun k hk e => by omega)
          have HLY : Hid (Lists wr (fun k => w5.heap.size ≤ k) a0 (.slice Yv ynv ycv) (.slice Yi yni yci)) := (HOY7.out.lists.more (fun _ h => h.1)).upd HU.out (fun k hk e => by omega)
          have HSS := Lib.hid (rsame_any a0 a0 HWF.out HWF.out HLY.out HLA.out)
          rw [decide_eq_true rfl] at HSS
          have e1 := HYE.out
          have e2 := HBE.out
          unfold msV msCells at HSS
          unfold msCells at e1 e2
          have l1 := load_msg e1 rfl
          simp [go_sem] at l1
          have l2 := load_msg e2 rfl
          simp [go_sem] at l2
          clear s3 s4 s5 s6 e1 e2
          go_wp2_with fail
          clear l1 l2
          refine HSS.out.mono ?_
          rintro e w10 ⟨rfl, hu10⟩
          have HU10 := Lib.hid (HUE.out.trans hu10 (fun _ _ h => h))
          clear hu10
          go_wp2_with fail
          refine (HWK.out _).mono ?_
          rintro e w11 ⟨rfl, hu11⟩
          have HU11 := Lib.hid (HU10.out.trans hu11 (fun _ _ h => h))
          clear hu11
          go_wp2_with fail
          go_ret
          exact ⟨rfl, HU11.out.below⟩
end Go.Proofs.Ytaielcokfpodaaa
