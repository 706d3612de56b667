/-
  Layer 18, messages: Check. Conditions: bytes; lists of at most 10^6.
-/
import Derived.Test.YtaielcokfpodaaaMsgK
namespace Go.Proofs.Ytaielcokfpodaaa
open Go.RowKit Go.Maps

def mayE (m : Ms) : Int := if mayM m then 0 else 2
def allF (m : Ms) (l : List Pt) : Bool := l.all (ptMay m)
theorem len_ite {c : Prop} [Decidable c] {l r : List Pt} (hl : l.length ≤ 4) (hr : r.length ≤ 4) : (if c then l else r).length ≤ 4 := by
  by_cases h : c
  · rw [if_pos h]; exact hl
  · rw [if_neg h]; exact hr
theorem ptsOf_len (k : Int) : (ptsOf k).length ≤ 4 := by
  unfold ptsOf
  repeat' apply len_ite
  all_goals decide
/-- Behind a part's move. -/
def MvR (lo : Nat) (w5 : World) (go : Nat) (m tt : Ms) (p : Pt) (wx : World) : Prop := ∃ wv' wi', Blk wx go 34 (msCells (ptMove m tt p) wv' wi') ∧ Lists wx (fun j => lo ≤ j ∧ j < wx.heap.size ∧ j ≠ go) (ptMove m tt p) wv' wi' ∧ Upd (fun j => j = go) w5 wx
/-- Check's loop over the parts. -/
structure CkL (w0 : World) (go : Nat) (m : Ms) (is0 : Bool) (k : Nat) (is : Value) (wr : World) : Prop where
  is_ : is = .bool (is0 && allF m ((ptsOf m.kind).take k))
  upd : Upd (fun j => j = go) w0 wr
  own : ∃ wv wi, Blk wr go 34 (msCells (((ptsOf m.kind).take k).foldl (ptMove m) (ms0 m.kind)) wv wi) ∧ Lists wr (fun j => w0.heap.size ≤ j ∧ j < wr.heap.size ∧ j ≠ go) (((ptsOf m.kind).take k).foldl (ptMove m) (ms0 m.kind)) wv wi

theorem take_snoc_ {l : List Pt} {k : Nat} {p : Pt} (h : l[k]? = some p) : l.take (k + 1) = l.take k ++ [p] := by
  obtain ⟨hk, e⟩ := List.getElem?_eq_some_iff.1 h
  rw [List.take_succ_eq_append_getElem hk, e]
theorem ckL_step {w2 w7 : World} {go : Nat} {m tt : Ms} {is0 bk : Bool} {k : Nat} {p : Pt} {wv wi : Value} (hb : (is0 && allF m ((ptsOf m.kind).take k)) = bk) (ht : ((ptsOf m.kind).take k).foldl (ptMove m) (ms0 m.kind) = tt) (hp : (ptsOf m.kind)[k]? = some p)
    (hu : Upd (fun j => j = go) w2 w7) (hM : Blk w7 go 34 (msCells (ptMove m tt p) wv wi)) (hl : Lists w7 (fun j => w2.heap.size ≤ j ∧ j < w7.heap.size ∧ j ≠ go) (ptMove m tt p) wv wi) : CkL w2 go m is0 (k + 1) (.bool (bk && ptMay m p)) w7 := by
  have he : ((ptsOf m.kind).take (k + 1)).foldl (ptMove m) (ms0 m.kind) = ptMove m tt p := by rw [take_snoc_ hp, List.foldl_append, ht]; rfl
  refine ⟨?_, hu, wv, wi, by rw [he]; exact hM, by rw [he]; exact hl⟩
  have ha : allF m ((ptsOf m.kind).take (k + 1)) = (allF m ((ptsOf m.kind).take k) && ptMay m p) := by
    unfold allF
    rw [take_snoc_ hp, List.all_append]
    simp
  rw [ha, ← Bool.and_assoc, hb]

set_option maxRecDepth 100000 in
set_option maxHeartbeats 8000000 in
theorem mcheck_any {w : World} {G : Nat → Prop} (m : Ms) (hw : WfM m) (hx : TxtM m) {vv vi : Value} (hm : Lists w G m vv vi) :
    Calls Try.prog 12 #[msV m vv vi] w fun e w' => e = .returned (.int .i64 (mayE m)) ∧ Upd (fun _ => False) w w' := by
  obtain ⟨Av, nv, cv, Ai, ni, ci, rfl, rfl⟩ := hm.shape
  have HM := Lib.hid hm
  have HW := Lib.hid hw
  have HX := Lib.hid hx
  obtain ⟨E, hE⟩ : ∃ E, mayE m = E := ⟨_, rfl⟩
  have HE := Lib.hid hE
  rw [hE]
  have hmsv : msV m (.slice Av nv cv) (.slice Ai ni ci) = .agg (msCells m (.slice Av nv cv) (.slice Ai ni ci)) := rfl
  obtain ⟨is0, his0⟩ : ∃ b, decide (1 ≤ m.kind ∧ m.kind ≤ 13) = b := ⟨_, rfl⟩
  have HIS := Lib.hid his0
  clear hm hw hx hE his0
  rw [hmsv]
  clear hmsv
  unfold msCells
  go_enter Try.func12, Try.ntmps12
  go_upto_region 1 with fail
  have hb0 : Blk (w.alloc (.cells (msCells m (.slice Av nv cv) (.slice Ai ni ci)) 34)) w.heap.size 34 (msCells m (.slice Av nv cv) (.slice Ai ni ci)) := Blk.new w 34 _
  have hw0 : Upd (fun _ => False) w (w.alloc (.cells (msCells m (.slice Av nv cv) (.slice Ai ni ci)) 34)) := (Upd.refl _ _).alloc _
  unfold msCells at hb0 hw0
  generalize w.alloc (.cells #[.int .u8 m.kind, .int .u64 m.bn, .int .u8 m.br, .int .u64 m.base, .int .u64 m.slot, .int .u8 m.node, .string (strOfNums m.val), .slice Av nv cv, .slice Ai ni ci, .int .u8 m.cmd.client, .int .u32 m.cmd.seq, .int .u8 m.cmd.kind, .string (strOfNums m.cmd.key), .string (strOfNums m.cmd.old), .string (strOfNums m.cmd.new), .int .u8 m.cmd.set, .int .u8 m.code, .string (strOfNums m.text)] 34) = w0 at *
  have HB0 := Lib.hid hb0
  have HW0 := Lib.hid hw0
  have z0 : w0.cell? ⟨w.heap.size, 0, none⟩ = some (.int .u8 m.kind) := hb0.cell 0
  clear hb0 hw0
  go_region_held3 (fun wx => wx.cell? ⟨w.heap.size, 0, none⟩ = some (.int .u8 m.kind))
    (first
      | exact z0
      | exact (HB0.out.upd HU1.out id).cell 0
      | fail)
    (first
      | (go_at_call 13
         refine (mkinds_any _).mono ?_
         rintro e w1 ⟨mp, f, rfl, hk⟩
         have HU1 : Hid (Upd (fun _ => False) w0 w1) := (Upd.refl _ _).drew.trans hk.upd (fun _ _ h => h)
         obtain ⟨A, n, c, hkl⟩ := klook hk m.kind HW.out.kind.1 HW.out.kind.2
         have r1 := hkl.runOk
         rw [HIS.out] at r1
         have HKL := Lib.hid hkl
         clear hk hkl)
      | fail)
  have hlen : n = (ptsOf m.kind).length := HKL.out.len
  have HLEN := Lib.hid hlen
  have hn5 : n ≤ 4 := by
    rw [hlen]
    exact ptsOf_len _
  have hn6 : (n : Int) ≤ 4 := by omega
  clear hlen z0
  go_wp2_with fail
  obtain ⟨go, hgo⟩ : ∃ go, go = w1.heap.size := ⟨_, rfl⟩
  obtain ⟨w2, hw2⟩ : ∃ w2, w2 = w1.alloc (.cells #[.int .u8 m.kind, .int .u64 0, .int .u8 0, .int .u64 0, .int .u64 0, .int .u8 0, .string { data := #[] }, .slice none 0 0, .slice none 0 0, .int .u8 0, .int .u32 0, .int .u8 0, .string { data := #[] }, .string { data := #[] }, .string { data := #[] }, .int .u8 0, .int .u8 0, .string { data := #[] }] 34) := ⟨_, rfl⟩
  rw [← hw2, ← hgo]
  have hu2 : Upd (fun _ => False) w1 w2 := by rw [hw2]; exact (Upd.refl _ _).alloc _
  have hb2 : Blk w2 go 34 (msCells (ms0 m.kind) (.slice none 0 0) (.slice none 0 0)) := by rw [hw2]; exact Blk.newAt _ _ _ hgo
  have HU02 := Lib.hid (HU1.out.trans hu2 (fun _ _ h => h))
  have HU2 := Lib.hid hu2
  have HGO := Lib.hid hgo
  have HCK : Hid (CkL w2 go m is0 0 (.bool is0) w2) := by
    refine ⟨by rw [List.take_zero]; simp [allF], Upd.refl _ _, .slice none 0 0, .slice none 0 0, ?_, ?_⟩
    · rw [List.take_zero, List.foldl_nil]; exact hb2
    · rw [List.take_zero, List.foldl_nil]; exact ⟨Sl.nil _ _ _, Sl.nil _ _ _⟩
  have HGZ : Hid (w0.heap.size ≤ go ∧ go < w2.heap.size) := ⟨by rw [hgo]; exact HU1.out.size, hb2.lt⟩
  clear hu2 hb2 hw2 hgo r1
  go_loopw [4, 20] (fun is i wr => ∃ k : Nat, k ≤ n ∧ i = .int .i64 k ∧ CkL w2 go m is0 k is wr) (fun _ i _ => n - (intOf i).toNat)
  case atStart => exact ⟨0, Nat.zero_le _, rfl, HCK.out⟩
  case round =>
    obtain ⟨k, hk, rfl, hck⟩ := hrel
    obtain ⟨rfl, hu, wv, wi, hbo, hlo⟩ := hck
    obtain ⟨bk, hbk⟩ : ∃ b, (is0 && allF m ((ptsOf m.kind).take k)) = b := ⟨_, rfl⟩
    rw [hbk]
    obtain ⟨tt, htt⟩ : ∃ tt, ((ptsOf m.kind).take k).foldl (ptMove m) (ms0 m.kind) = tt := ⟨_, rfl⟩
    rw [htt] at hbo hlo
    have HU := Lib.hid hu
    have HBO := Lib.hid hbo
    have HLO := Lib.hid hlo
    have HBK := Lib.hid hbk
    have HTT := Lib.hid htt
    have HBX := Lib.hid ((HB0.out.upd HU02.out id).upd hu (fun e => by have := HB0.out.lt; have := HGZ.out; omega))
    by_cases hlt : k < n
    · obtain ⟨g, p, hA, hp, p0, p1, p2, p3⟩ := HKL.out.cell (F := fun j => j = go) ((HU2.out.mono (fun _ _ h => h.elim)).trans hu (fun _ _ h => h)) (fun j h1 h2 e => by have := HGO.out; omega) hlt
      subst hA
      have HP := Lib.hid hp
      unfold fv at p0 p1 p2 p3
      clear hbk htt hu hbo hlo hp
      obtain ⟨o, ho⟩ : ∃ o, o = 0 := ⟨_, rfl⟩
      go_upto_region 6 with fail
      obtain ⟨w5, hw5⟩ : ∃ w5, w5 = wr.alloc (.cells #[.func (.func (fPut p)) #[] #[], .func (.func (fTake p)) #[] #[], .func (.func (fMove p)) #[] #[], .func (.func (fMay p)) #[] #[]] 57) := ⟨_, rfl⟩
      rw [← hw5]
      have hu5 : Upd (fun _ => False) wr w5 := by rw [hw5]; exact (Upd.refl _ _).alloc _
      have hb5 : Blk w5 wr.heap.size 57 #[.func (.func (fPut p)) #[] #[], .func (.func (fTake p)) #[] #[], .func (.func (fMove p)) #[] #[], .func (.func (fMay p)) #[] #[]] := by rw [hw5]; exact Blk.new _ _ _
      have hx5 := HBX.out.upd hu5 id
      have s2 : w5.cell? ⟨wr.heap.size, 2, none⟩ = some (.func (.func (fMove p)) #[] #[]) := hb5.cell 2
      have bld := Lib.hid (hx5)
      have HU5 := Lib.hid hu5
      have HUM : Hid (Upd (fun _ => False) w w5) := (HW0.out.trans HU02.out (fun _ _ h => h)).trans (HU.out.trans HU5.out (fun _ _ h => h.elim)) (fun i hi e => by have := HGZ.out; have := HW0.out.size; omega)
      have HB5 := Lib.hid hb5
      have HX5 := Lib.hid hx5
      clear hw5 hu5 hb5 hx5 p0 p1 p2 p3 ho
      have hmv := Lib.hid (mv_any p m tt HW.out (HBO.out.upd HU5.out id) (HM.out.upd HUM.out (fun _ _ h => h)) (HLO.out.upd HU5.out (fun _ _ h => h)) (fun j hj => ⟨by have := HU5.out.size; omega, hj.2.2⟩))
      unfold msV msCells at hmv
      have hcm := call_move p
      go_wp2_with (first | (refine wpList_load_row rfl 34 (.tmp 1) (by rfl) w.heap.size (by rfl) 34 _ (0, 0) _ HX5.out Try.underlying34 rfl (by kernel_rfl) ?_) | fail)
      refine hmv.out.mono ?_
      rintro e wc ⟨rfl, wv', wi', hb6, hl6', hu6⟩
      have hl6 : Lists wc (fun j => w2.heap.size ≤ j ∧ j < wc.heap.size ∧ j ≠ go) (ptMove m tt p) wv' wi' := hl6'.more (fun j hj => by
        have q1 := HU5.out.size
        have q2 := HU.out.size
        have q3 := HGZ.out
        have q4 := hu6.size
        rcases hj with hj | hj <;> omega)
      clear hmv hl6' hcm
      have hne1 : wr.heap.size ≠ go := by have := HGZ.out; have := HU.out.size; omega
      have hne2 : w.heap.size ≠ go := by have := HB0.out.lt; have := HGZ.out; omega
      have hb5 := HB5.out.upd hu6 (fun e => hne1 e)
      have hx6 := HX5.out.upd hu6 (fun e => hne2 e)
      have HUW : Hid (Upd (fun j => j = go) w2 wc) := (HU.out.trans HU5.out (fun _ _ h => h.elim)).trans hu6 (fun _ _ h => h)
      have HN : Hid (∀ w7, Upd (fun _ => False) wc w7 → CkL w2 go m is0 (k + 1) (.bool (bk && ptMay m p)) w7) := fun w7 hu7 => ckL_step HBK.out HTT.out HP.out (HUW.out.trans hu7 (fun _ _ h => h.elim)) (hb6.upd hu7 id) ((hl6.upd hu7 (fun _ _ h => h)).more (fun j hj => by have := hu7.size; omega))
      have HUMC : Hid (Upd (fun _ => False) w wc) := HUM.out.trans hu6 (fun i hi e => by have := HGZ.out; have := HW0.out.size; omega)
      have s3 : wc.cell? ⟨wr.heap.size, 3, none⟩ = some (.func (.func (fMay p)) #[] #[]) := hb5.cell 3
      have dld := Lib.hid (hx6)
      clear hb6 hl6 hu6 hb5 hx6 hne1 hne2 s2 bld
      cases bk
      case false =>
        have HN0 := Lib.hid (HN.out wc (Upd.refl _ _))
        rw [Bool.false_and] at HN0
        go_wp2_with fail
        go_roundw
        case rel => exact ⟨k + 1, by omega, by go_num, HN0.out⟩
        case measure => simp [intOf]; omega
      case true =>
        rw [Bool.true_and] at HN
        have hmy := Lib.hid (my_any p m HW.out HX.out (HM.out.upd HUMC.out (fun _ _ h => h)))
        unfold msV msCells at hmy
        obtain ⟨mb, hmb⟩ : ∃ b, ptMay m p = b := ⟨_, rfl⟩
        rw [hmb] at hmy HN
        clear hmb
        have hcy := call_may p
        have hlo := load_msg dld.out rfl
        simp [go_sem] at hlo
        go_wp2_with fail
        clear hlo
        refine hmy.out.mono ?_
        rintro e w7 ⟨rfl, hu7⟩
        have HN7 := Lib.hid (HN.out w7 hu7)
        clear hu7
        go_wp2_with fail
        go_roundw
        case rel => exact ⟨k + 1, by omega, by go_num, HN7.out⟩
        case measure => simp [intOf]; omega
    · have hke : k = n := by omega
      subst hke
      rw [HLEN.out, List.take_of_length_le (Nat.le_refl _)] at HBK HTT
      obtain ⟨Bv, n1, c1, Bi, n2, c2, rfl, rfl⟩ := hlo.shape
      have hboc := hbo
      have hbxc := HBX.out
      unfold msCells at hboc hbxc
      have dld := Lib.hid (hbxc)
      have old := Lib.hid (hboc)
      have HUW : Hid (Upd (fun _ => False) w wr) := (HW0.out.trans HU02.out (fun _ _ h => h)).trans hu (fun i hi e => by have := HGZ.out; have := HW0.out.size; omega)
      have hwt : WfM tt := by rw [← HTT.out]; exact wf_fold HW.out _ _ (wf_ms0 _ HW.out.kind.1 HW.out.kind.2)
      have hsm := Lib.hid (msame_any tt m hwt HW.out _ _ _ _ _ _ _ _ _ _ _ _ hlo (HM.out.upd HUW.out (fun _ _ h => h)))
      unfold msV msCells at hsm
      obtain ⟨sb, hsb⟩ : ∃ b, decide (tt = m) = b := ⟨_, rfl⟩
      rw [hsb] at hsm
      have HEE : Hid (E = if (bk && sb) = true then 0 else 2) := by
        show _ = _
        have ho : ownM m = tt := HTT.out
        rw [← HE.out, ← HBK.out, ← hsb, ← HIS.out]
        unfold mayE mayM allF
        rw [ho]
      clear hboc hbxc hwt hsb hbk htt hu hbo hlo
      cases bk
      · go_wp2_with fail
        go_ret
        exact ⟨ret_int (by rw [HEE.out]; rfl), HUW.out⟩
      · have hl1 := load_msg old.out rfl
        simp [go_sem] at hl1
        have hl2 := load_msg dld.out rfl
        simp [go_sem] at hl2
        go_wp2_with fail
        clear hl1 hl2
        refine hsm.out.mono ?_
        rintro e w7 ⟨rfl, hu7⟩
        have HU7 := Lib.hid (HUW.out.trans hu7 (fun _ _ h => h))
        clear hu7
        cases sb
        · go_wp2_with fail
          go_ret
          exact ⟨ret_int (by rw [HEE.out]; rfl), HU7.out⟩
        · go_wp2_with fail
          go_ret
          exact ⟨ret_int (by rw [HEE.out]; rfl), HU7.out⟩
end Go.Proofs.Ytaielcokfpodaaa
