/-
  Layer 18, messages: Put.
-/
import Derived.Test.YtaielcokfpodaaaMsgL
namespace Go.Proofs.Ytaielcokfpodaaa
open Go.RowKit Go.Maps

theorem ptBy_short {m : Ms} (hw : WfM m) {p : Pt} (hv : p ≠ .votes) (hi : p ≠ .items) (h : ptMay m p = true) : (ptBy m p).length ≤ 70000 := by
  have a1 := (numE_len m.cmd.seq.toNat).2
  have a2 := (numE_len m.bn.toNat).2
  have a3 := (numE_len m.base.toNat).2
  have a4 := (numE_len m.slot.toNat).2
  have s1 := strBy_len m.cmd.key
  have s2 := strBy_len m.cmd.old
  have s3 := strBy_len m.cmd.new
  have s4 := strBy_len m.text
  have s5 := strBy_len m.val
  have hvl := hw.val.2
  cases p
  case whole =>
    have hl := cmdMay_len (c := m.cmd) h
    simp [ptBy, cmdBy]
    omega
  case reply =>
    simp [ptMay] at h
    simp [ptBy]
    omega
  case votes => exact absurd rfl hv
  case items => exact absurd rfl hi
  all_goals
    simp [ptBy, balBy]
    try omega
def LastB (l : List Pt) : Bool := l.dropLast.all (fun q => match q with | .votes => false | .items => false | _ => true)
theorem lastB_ite {c : Prop} [Decidable c] {l r : List Pt} (hl : LastB l = true) (hr : LastB r = true) : LastB (if c then l else r) = true := by
  by_cases h : c
  · rw [if_pos h]; exact hl
  · rw [if_neg h]; exact hr
theorem ptsOf_lastB (k : Int) : LastB (ptsOf k) = true := by
  unfold ptsOf
  repeat' apply lastB_ite
  all_goals rfl
theorem pre_no (kind : Int) {k : Nat} {p q : Pt} (hp : (ptsOf kind)[k]? = some p) (hq : q ∈ (ptsOf kind).take k) : q ≠ .votes ∧ q ≠ .items := by
  obtain ⟨hk, _⟩ := List.getElem?_eq_some_iff.1 hp
  have h := ptsOf_lastB kind
  unfold LastB at h
  have hm : q ∈ (ptsOf kind).dropLast := by
    rw [List.dropLast_eq_take]
    exact List.take_subset_take_left _ (by omega) hq
  have hx := List.all_eq_true.1 h q hm
  constructor <;> (rintro rfl; simp at hx)
theorem flat_le {l : List Pt} {m : Ms} {c : Nat} (h : ∀ q ∈ l, (ptBy m q).length ≤ c) : (l.flatMap (ptBy m)).length ≤ c * l.length := by
  induction l with
  | nil => simp
  | cons q l ih =>
    have h1 := h q (List.mem_cons_self ..)
    have h2 := ih (fun x hx => h x (List.mem_cons_of_mem _ hx))
    simp only [List.flatMap_cons, List.length_append, List.length_cons, Nat.mul_succ]
    omega
theorem pre_short {m : Ms} (hw : WfM m) (ha : (ptsOf m.kind).all (ptMay m) = true) {k : Nat} {p : Pt} (hp : (ptsOf m.kind)[k]? = some p) : (m.kind :: ((ptsOf m.kind).take k).flatMap (ptBy m)).length ≤ 300000 := by
  have h1 : ∀ q ∈ (ptsOf m.kind).take k, (ptBy m q).length ≤ 70000 := fun q hq =>
    ptBy_short hw (pre_no _ hp hq).1 (pre_no _ hp hq).2 (List.all_eq_true.1 ha q (List.mem_of_mem_take hq))
  have h2 := flat_le h1
  have h3 : ((ptsOf m.kind).take k).length ≤ 4 := Nat.le_trans (List.length_take_le' _ _) (ptsOf_len m.kind)
  simp only [List.length_cons]
  omega
/-- A readable slice lies in memory that is there. -/
theorem Sl.inb {w : World} {F : Nat → Prop} {size n : Nat} {v : Value} {xs : List Value} (h : Sl w F size v n xs) : Sl w (fun k => F k ∧ k < w.heap.size) size v n xs := by
  obtain ⟨hl, A, c, rfl, hc, hm, hA, hx⟩ := h
  refine ⟨hl, A, c, rfl, hc, hm, hA, fun hn => ?_⟩
  obtain ⟨b, o, rfl, hF, hb, hcell⟩ := hx hn
  exact ⟨b, o, rfl, ⟨hF, hb⟩, hb, hcell⟩
theorem Lists.inb {w : World} {G : Nat → Prop} {m : Ms} {vv vi : Value} (h : Lists w G m vv vi) : Lists w (fun k => k < w.heap.size) m vv vi := (⟨h.votes.inb, h.items.inb⟩ : Lists w (fun k => G k ∧ k < w.heap.size) m vv vi).more (fun _ h => h.2)
theorem byt_strBy {l : List Int} (h : Byt l) : Byt (strBy l) := (numE_byt _).app h
theorem byt_flat {α : Type} {f : α → List Int} : ∀ {l : List α}, (∀ v ∈ l, Byt (f v)) → Byt (l.flatMap f)
  | [], _ => Byt.nil
  | v :: l, h => by
    rw [List.flatMap_cons]
    exact (h v (List.mem_cons_self ..)).app (byt_flat fun x hx => h x (List.mem_cons_of_mem _ hx))
theorem byt_one {x : Int} (h : 0 ≤ x ∧ x ≤ 255) : Byt [x] := by
  intro y hy
  simp at hy
  omega
theorem ptBy_byt {m : Ms} (hw : WfM m) (p : Pt) : Byt (ptBy m p) := by
  have c := hw.cmd
  cases p
  case whole => exact ((((((byt_one c.client).app (numE_byt _)).app (byt_one c.kind)).app (byt_strBy c.key)).app (byt_strBy c.old)).app (byt_strBy c.new)).app (byt_one c.set)
  case name => exact (byt_one c.client).app (numE_byt _)
  case reply => exact (byt_one hw.code).app (byt_strBy hw.text)
  case node => exact byt_one hw.node
  case byy => exact (numE_byt _).app (byt_one hw.br)
  case base => exact numE_byt _
  case upto => exact numE_byt _
  case slot => exact numE_byt _
  case value => exact byt_strBy hw.val.1
  case votes => exact (numE_byt _).app (byt_flat fun v hv => by
      have q := hw.votes.2 v hv
      exact ((numE_byt _).app ((numE_byt _).app (byt_one q.r))).app (byt_strBy q.val.1))
  case items => exact (numE_byt _).app (byt_flat fun v hv => by
      have q := hw.items.2 v hv
      exact (numE_byt _).app (byt_strBy q.val.1))
theorem insM_byt {m : Ms} (hw : WfM m) : Byt (insM m) := (byt_one hw.kind).app (byt_flat fun p _ => ptBy_byt hw p)
theorem insM_ne_ (m : Ms) : insM m ≠ [] := by unfold insM; simp
/-- Behind Check of a message that may not be. -/
theorem putM_no {m : Ms} (h : mayM m = false) : putM m = ([], 2) := by unfold putM; rw [h]; rfl
theorem putM_long {m : Ms} (h : mayM m = true) (hl : 65536 < (insM m).length) : putM m = ([], 6) := by unfold putM; rw [h, if_pos rfl, if_neg (by omega)]
theorem putM_ok {m : Ms} (h : mayM m = true) (hl : (insM m).length ≤ 65536) : putM m = (frameB (insM m), 0) := by unfold putM; rw [h, if_pos rfl, if_pos hl]

set_option maxRecDepth 100000 in
set_option maxHeartbeats 8000000 in
theorem mput_any {w : World} {G : Nat → Prop} (m : Ms) (hw : WfM m) (hx : TxtM m) {vv vi : Value} (hm' : Lists w G m vv vi) (hb : (m.votes.flatMap vtBy).length ≤ 50000000 ∧ (m.items.flatMap itBy).length ≤ 50000000) :
    Calls Try.prog 7 #[msV m vv vi] w fun e w' => e = .returned (.tuple #[.string (strOfNums (putM m).1), .int .i64 (putM m).2]) ∧ Upd (fun _ => False) w w' := by
  have hm := hm'.inb
  obtain ⟨Av, nv, cv, Ai, ni, ci, rfl, rfl⟩ := hm.shape
  have HC := Lib.hid (fun (wx : World) (hu : Upd (fun _ => False) w wx) => mcheck_any m hw hx (hm.upd hu (fun _ _ h => h)))
  have HM := Lib.hid hm
  have HW := Lib.hid hw
  have HX := Lib.hid hx
  have HLB := Lib.hid hb
  obtain ⟨E, hE⟩ : ∃ E, putM m = E := ⟨_, rfl⟩
  have HE := Lib.hid hE
  rw [hE]
  have hmsv : msV m (.slice Av nv cv) (.slice Ai ni ci) = .agg (msCells m (.slice Av nv cv) (.slice Ai ni ci)) := rfl
  rw [hmsv] at HC ⊢
  clear hmsv hm' hm hw hx hE hb
  obtain ⟨mb, hmb⟩ : ∃ b, mayM m = b := ⟨_, rfl⟩
  have HMB := Lib.hid hmb
  unfold mayE at HC
  rw [hmb] at HC
  clear hmb
  unfold msCells at HC ⊢
  go_enter Try.func7, Try.ntmps7
  go_upto_region 1 with fail
  have hb0 : Blk (w.alloc (.cells (msCells m (.slice Av nv cv) (.slice Ai ni ci)) 34)) w.heap.size 34 (msCells m (.slice Av nv cv) (.slice Ai ni ci)) := Blk.new w 34 _
  have hw0 : Upd (fun _ => False) w (w.alloc (.cells (msCells m (.slice Av nv cv) (.slice Ai ni ci)) 34)) := (Upd.refl _ _).alloc _
  unfold msCells at hb0 hw0
  generalize w.alloc (.cells #[.int .u8 m.kind, .int .u64 m.bn, .int .u8 m.br, .int .u64 m.base, .int .u64 m.slot, .int .u8 m.node, .string (strOfNums m.val), .slice Av nv cv, .slice Ai ni ci, .int .u8 m.cmd.client, .int .u32 m.cmd.seq, .int .u8 m.cmd.kind, .string (strOfNums m.cmd.key), .string (strOfNums m.cmd.old), .string (strOfNums m.cmd.new), .int .u8 m.cmd.set, .int .u8 m.code, .string (strOfNums m.text)] 34) = w0 at *
  have HB0 := Lib.hid hb0
  have HW0 := Lib.hid hw0
  have hl0 := load_msg hb0 rfl
  simp [go_sem] at hl0
  clear hb0 hw0
  cases mb
  case false =>
    go_wp2_with fail
    clear hl0
    refine (HC.out _ HW0.out).mono ?_
    rintro e w1 ⟨rfl, hu1⟩
    have HU1 := Lib.hid (HW0.out.trans hu1 (fun _ _ h => h))
    clear hu1
    go_wp2_with fail
    refine bodyPost_ret (v := .tuple #[.string { data := #[] }, .int .i64 2]) (by simp [results, Try.results7, go_sem]) rfl ⟨?_, HU1.out⟩
    rw [← HE.out, putM_no HMB.out]
    rfl
  case true =>
    go_wp2_with fail
    clear hl0
    refine (HC.out _ HW0.out).mono ?_
    rintro e w1 ⟨rfl, hu1⟩
    have HU1 := Lib.hid hu1
    have HB1 := Lib.hid (HB0.out.upd hu1 id)
    have z1 : w1.cell? ⟨w.heap.size, 0, none⟩ = some (.int .u8 m.kind) := HB1.out.cell 0
    clear hu1
    go_upto_region 5 with fail
    have how0 : Ow (w1.alloc (.cells #[.int .u8 m.kind] 5)) (.slice (some ⟨w1.heap.size, 0, none⟩) 1 1) [m.kind] := World.ownsRow_lit w1 #[.int .u8 m.kind] 1 (Nat.zero_le _) (by simp [maxLen]) rfl
    have hu2 : Upd (fun _ => False) w1 (w1.alloc (.cells #[.int .u8 m.kind] 5)) := (Upd.refl _ _).alloc _
    obtain ⟨v0, hv0⟩ : ∃ v0, v0 = Value.slice (some ⟨w1.heap.size, 0, none⟩) 1 1 := ⟨_, rfl⟩
    have hv0n : Hid (∀ b, v0.ownBlock = some b → b = w1.heap.size) := fun b hb => by rw [hv0] at hb; simp [Value.ownBlock] at hb; exact hb.symm
    rw [← hv0] at how0 ⊢
    clear hv0
    generalize w1.alloc (.cells #[.int .u8 m.kind] 5) = w2 at *
    have HOW0 := Lib.hid how0
    have HU12 := Lib.hid hu2
    have HB2 := Lib.hid (HB1.out.upd hu2 id)
    have z0 : w2.cell? ⟨w.heap.size, 0, none⟩ = some (.int .u8 m.kind) := HB2.out.cell 0
    clear how0 hu2 z1
    go_region_held3 (fun wx => wx.cell? ⟨w.heap.size, 0, none⟩ = some (.int .u8 m.kind))
      (first
        | exact z0
        | exact (HB2.out.upd HU3.out id).cell 0
        | fail)
      (first
        | (go_at_call 13
           refine (mkinds_any _).mono ?_
           rintro e w3 ⟨mp, f, rfl, hk⟩
           have HU3 : Hid (Upd (fun _ => False) w2 w3) := (Upd.refl _ _).drew.trans hk.upd (fun _ _ h => h)
           obtain ⟨A, n, c, hkl⟩ := klook hk m.kind HW.out.kind.1 HW.out.kind.2
           have r1 := hkl.run_
           have HKL := Lib.hid hkl
           clear hk hkl)
        | fail)
    have hlen : n = (ptsOf m.kind).length := HKL.out.len
    have HLEN := Lib.hid hlen
    have hn5 : n ≤ 4 := by
      rw [hlen]
      exact ptsOf_len _
    have hn6 : (n : Int) ≤ 4 := by omega
    clear hlen z0 r1
    go_wp2_with fail
    have HALL := Lib.hid (mayM_parts HMB.out).2.1
    have HPU : Hid (OwTo w3 v0 (m.kind :: ((ptsOf m.kind).take 0).flatMap (ptBy m)) w3 v0) := by
      rw [List.take_zero, List.flatMap_nil]
      exact (HOW0.out.still HU3.out).1.to
    go_loopw [5, 23] (fun v i wr => ∃ k : Nat, k ≤ n ∧ i = .int .i64 k ∧ OwTo w3 v0 (m.kind :: ((ptsOf m.kind).take k).flatMap (ptBy m)) wr v) (fun _ i _ => n - (intOf i).toNat)
    case atStart => exact ⟨0, Nat.zero_le _, rfl, HPU.out⟩
    case round =>
      obtain ⟨k, hk, rfl, how⟩ := hrel
      have HOW := Lib.hid how
      have HV0 : Hid (¬ (v0.ownBlock = some w.heap.size)) := fun e => by
        have := hv0n.out _ e
        have := HB1.out.lt
        omega
      have HBX : Hid (Blk wr w.heap.size 34 (msCells m (.slice Av nv cv) (.slice Ai ni ci))) := (HB2.out.upd HU3.out id).upd how.2.1 HV0.out
      have HLX : Hid (Lists wr (fun k => k < w.heap.size) m (.slice Av nv cv) (.slice Ai ni ci)) := by
        refine ((((HM.out.upd HW0.out (fun _ _ h => h)).upd HU1.out (fun _ _ h => h)).upd HU12.out (fun _ _ h => h)).upd HU3.out (fun _ _ h => h)).upd how.2.1 (fun j hj e => ?_)
        have := hv0n.out _ e
        have := HW0.out.size
        have := HU1.out.size
        omega
      have HVB : Hid (∀ j, v0.ownBlock = some j → j < w2.heap.size) := fun j hj => (World.ownsRow.lt HOW0.out j hj).2
      by_cases hlt : k < n
      · obtain ⟨g, p, hA, hp, p0, p1, p2, p3⟩ := HKL.out.cell (F := fun j => v0.ownBlock = some j) how.2.1 (fun j h1 h2 e => by
          have := HVB.out _ e
          simp at h1
          omega) hlt
        subst hA
        have HP := Lib.hid hp
        have hls : (m.kind :: ((ptsOf m.kind).take k).flatMap (ptBy m)).length ≤ 300000 := pre_short HW.out HALL.out hp
        obtain ⟨L, hL⟩ : ∃ L, m.kind :: ((ptsOf m.kind).take k).flatMap (ptBy m) = L := ⟨_, rfl⟩
        have HL := Lib.hid hL
        rw [hL] at how HOW hls
        have HLS := Lib.hid hls
        obtain ⟨Ac, cc, rfl, hc1, hc2⟩ := how.1.shape
        unfold fv at p0 p1 p2 p3
        clear hL how hp hls hc1 hc2
        obtain ⟨o, ho⟩ : ∃ o, o = 0 := ⟨_, rfl⟩
        go_upto_region 8 with fail
        obtain ⟨w5, hw5⟩ : ∃ w5, w5 = wr.alloc (.cells #[.func (.func (fPut p)) #[] #[], .func (.func (fTake p)) #[] #[], .func (.func (fMove p)) #[] #[], .func (.func (fMay p)) #[] #[]] 57) := ⟨_, rfl⟩
        rw [← hw5]
        have hu5 : Upd (fun _ => False) wr w5 := by rw [hw5]; exact (Upd.refl _ _).alloc _
        have hb5 : Blk w5 wr.heap.size 57 #[.func (.func (fPut p)) #[] #[], .func (.func (fTake p)) #[] #[], .func (.func (fMove p)) #[] #[], .func (.func (fMay p)) #[] #[]] := by rw [hw5]; exact Blk.new _ _ _
        have s2 : w5.cell? ⟨wr.heap.size, 0, none⟩ = some (.func (.func (fPut p)) #[] #[]) := hb5.cell 0
        have HU5 := Lib.hid hu5
        have HX5 := Lib.hid (HBX.out.upd hu5 id)
        have hpt := Lib.hid (pt_any p (HOW.out.1.upd hu5 (fun _ _ => id)) m HW.out HX.out (HLX.out.upd hu5 (fun _ _ h => h)) (fun j hj e => by
          have := HOW.out.2.2 j e
          rcases this with h | h
          · have := hv0n.out _ h
            have := HW0.out.size
            have := HU1.out.size
            omega
          · have := HW0.out.size
            have := HU1.out.size
            have := HU12.out.size
            have := HU3.out.size
            omega) (by have := HLS.out; omega) HLB.out)
        unfold msV msCells at hpt
        have hcm := call_put p
        clear hw5 hu5 hb5 p0 p1 p2 p3 ho
        go_wp2_with (first | (refine wpList_load_row rfl 34 (.tmp 1) (by rfl) w.heap.size (by rfl) 34 _ (0, 0) _ HX5.out Try.underlying34 rfl (by kernel_rfl) ?_) | fail)
        refine hpt.out.mono ?_
        rintro e wc ⟨v', rfl, how6⟩
        have HOW6 := Lib.hid how6
        clear hpt how6 hcm s2
        go_wp2_with fail
        go_roundw
        case rel =>
          refine ⟨k + 1, by omega, by go_num, ?_⟩
          rw [take_snoc_ HP.out, List.flatMap_append, List.flatMap_cons, List.flatMap_nil, List.append_nil, ← List.cons_append, HL.out]
          exact (HOW.out.trans (HOW.out.1.still HU5.out)).trans HOW6.out
        case measure => simp [intOf]; omega
      · have hke : k = n := by omega
        subst hke
        have hins : m.kind :: ((ptsOf m.kind).take k).flatMap (ptBy m) = insM m := by
          rw [HLEN.out, List.take_of_length_le (Nat.le_refl _)]
          rfl
        rw [hins] at how HOW
        have HUW : Hid (Upd (fun _ => False) w wr) := (((HW0.out.trans HU1.out (fun _ _ h => h)).trans HU12.out (fun _ _ h => h)).trans HU3.out (fun _ _ h => h)).trans how.2.1 (fun i hi e => by
          have := hv0n.out _ e
          have := HW0.out.size
          have := HU1.out.size
          omega)
        have HBY := Lib.hid (insM_byt HW.out)
        have HNE := Lib.hid (insM_ne_ m)
        obtain ⟨I, hI⟩ : ∃ I, insM m = I := ⟨_, rfl⟩
        have HI := Lib.hid hI
        rw [hI] at how HOW HBY HNE
        obtain ⟨Ac, cc, rfl, hc1, hc2⟩ := how.1.shape
        have hcv := run_string_of_sl (P := Try.prog) (xs := I) 23 9 5 Try.underlying23 Try.underlying5 Try.underlying9 (Sl.own how.1)
        clear hins hI how hc1 hc2
        by_cases h6 : I.length ≤ 65536
        · have hfp := Lib.hid (fput_ok (Ow.nil wr) I HBY.out HNE.out h6 (Nat.zero_le _))
          rw [List.nil_append] at hfp
          have HPM : Hid (E = (frameB I, 0)) := by
            show _ = _
            rw [← HE.out, putM_ok HMB.out (by rw [HI.out]; exact h6), HI.out]
          have HFB := Lib.hid (frameB_byt I HBY.out)
          clear h6
          go_wp2_with fail
          refine hfp.out.mono ?_
          rintro e wc ⟨v', rfl, how7⟩
          have HU7 : Hid (Upd (fun _ => False) w wc) := HUW.out.trans how7.2.1 (fun i hi e => by simp [Value.ownBlock] at e)
          obtain ⟨A7, c7, rfl, hc1, hc2⟩ := how7.1.shape
          clear hcv
          have hcv := run_string_of_sl (P := Try.prog) (xs := frameB I) 23 9 5 Try.underlying23 Try.underlying5 Try.underlying9 (Sl.own how7.1)
          clear hfp how7 hc1 hc2
          obtain ⟨FB, hFB⟩ : ∃ FB, frameB I = FB := ⟨_, rfl⟩
          rw [hFB] at hcv HPM ⊢
          clear hFB HFB
          go_wp2_with fail
          refine bodyPost_ret (v := .tuple #[.string (strOfNums FB), .int .i64 0]) (by simp [results, Try.results7, go_sem]) rfl ⟨?_, HU7.out⟩
          rw [HPM.out]
        · have hfp := Lib.hid (fput_bad (Ow.nil wr) I (.inr (by omega)))
          have HPM : Hid (E = ([], 6)) := by
            show _ = _
            rw [← HE.out, putM_long HMB.out (by rw [HI.out]; omega)]
          clear h6
          go_wp2_with fail
          refine hfp.out.mono ?_
          rintro e wc ⟨rfl, rfl⟩
          clear hcv
          have hcv := run_string_of_sl (P := Try.prog) (xs := []) 23 9 5 Try.underlying23 Try.underlying5 Try.underlying9 (Sl.nil wr (fun _ => False) 1)
          clear hfp
          rw [strOf_nil] at hcv
          go_wp2_with fail
          refine bodyPost_ret (v := .tuple #[.string { data := #[] }, .int .i64 6]) (by simp [results, Try.results7, go_sem]) rfl ⟨?_, HUW.out⟩
          rw [HPM.out]
          rfl
end Go.Proofs.Ytaielcokfpodaaa
