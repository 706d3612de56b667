/-
  Layer 18, messages: Take. Conditions: bytes, at most 10^9 of them.
-/
import Derived.Test.YtaielcokfpodaaaMsgN
namespace Go.Proofs.Ytaielcokfpodaaa
open Go.RowKit Go.Maps

set_option maxRecDepth 100000 in
set_option maxHeartbeats 8000000 in
theorem mtake_any (l : List Int) (hb : Byt l) (hl : l.length ≤ 1000000000) (w : World) :
    Calls Try.prog 8 #[.string (strOfNums l)] w (TakeR w (takeM l)) := by
  have HF := Lib.hid (fun wx => ftake_any l hb hl wx)
  have HPF := Lib.hid (fun (ins : List Int) (n : Int) (h : pFrame l = (ins, n, 0)) => pFrame_ok h hb)
  have hz : (strOfNums l).size = l.length := strOfNums_size l
  obtain ⟨R, hR⟩ : ∃ R, takeM l = R := ⟨_, rfl⟩
  have HR := Lib.hid hR
  rw [hR]
  unfold takeM at hR
  rcases hp : pFrame l with ⟨ins, n, e0⟩
  rw [hp] at HF hR HPF
  simp only at HF hR
  clear hb hl hp
  by_cases he : e0 ≠ 0
  · rw [if_pos he] at hR
    have HRR := Lib.hid hR.symm
    have he' : (e0 != 0) = true := bne_iff_ne.2 he
    clear he hR
    exact mtake_e1 HF hz he' HRR
  · obtain rfl : e0 = 0 := by simpa using he
    rw [if_neg he] at hR
    obtain ⟨rest, q1, q2, q3, q4, q5⟩ := HPF.out ins n rfl
    clear he HPF
    by_cases hlt : n < (l.length : Int)
    · rw [if_pos hlt] at hR
      have HRR := Lib.hid hR.symm
      clear hR q1 q2 q3 q4 q5
      exact mtake_e2 HF hz hlt HRR
    · rw [if_neg hlt] at hR
      have hge : decide (n < (l.length : Int)) = false := decide_eq_false hlt
      have HIL : Hid (ins.length ≤ 65536) := q4
      have HIB := Lib.hid q5
      have HOF := Lib.hid (fun wx => wof_any ins wx)
      have hio : RdOk (ins, 0) := ⟨q5, by show ins.length ≤ _; omega⟩
      have HBY := Lib.hid (fun (wx : World) (b : Nat) (hx : Rd wx b (ins, 0)) => wbyte_any hx hio)
      obtain ⟨k1, k2, k3⟩ := hio.byte
      have k4 : Gone (pByte (ins, 0)).2 := Gone.byte (fun h => absurd rfl h)
      have k5 := le_byte (ins, 0)
      simp only at k5
      unfold inM at hR
      rcases hk : pByte (ins, 0) with ⟨kd, s⟩
      rw [hk] at HBY hR k1 k2 k3 k4 k5
      simp only at HBY hR k1 k2 k3 k4 k5
      have HK := Lib.hid (And.intro k1 (And.intro k4 (show s.1.length ≤ 65536 by omega)))
      have HRR := Lib.hid hR
      have HKD : Hid (0 ≤ kd ∧ kd ≤ 255) := ⟨k2, k3⟩
      clear hR q1 q2 q3 q4 q5 hlt hio k1 k4 k5 hk k2 k3
      go_enter Try.func8, Try.ntmps8
      go_wp2_with fail
      refine (HF.out _).mono ?_
      rintro e w1 ⟨rfl, hu1⟩
      have HU1 := Lib.hid hu1
      clear hu1
      go_wp2_with fail
      refine (HOF.out _).mono ?_
      rintro e w2 ⟨b, rfl, hbw, hu2, hr2⟩
      have HU2 := Lib.hid hu2
      have HR2 := Lib.hid hr2
      have HBW := Lib.hid hbw
      clear hu2 hr2 hbw
      go_wp2_with fail
      refine (HBY.out _ _ HR2.out).mono ?_
      rintro e w3 ⟨rfl, hto⟩
      have HTO := Lib.hid hto
      clear hto
      go_upto_region 8 with (first | (refine wpList_store_row rfl 34 (.tmp 8) (.tmp 32) (by rfl) w3.heap.size #[.int .u8 kd, .int .u64 0, .int .u8 0, .int .u64 0, .int .u64 0, .int .u8 0, .string { data := #[] }, .slice none 0 0, .slice none 0 0, .int .u8 0, .int .u32 0, .int .u8 0, .string { data := #[] }, .string { data := #[] }, .string { data := #[] }, .int .u8 0, .int .u8 0, .string { data := #[] }] (by rfl) (by rfl) 34 #[.int .u8 0, .int .u64 0, .int .u8 0, .int .u64 0, .int .u64 0, .int .u8 0, .string { data := #[] }, .slice none 0 0, .slice none 0 0, .int .u8 0, .int .u32 0, .int .u8 0, .string { data := #[] }, .string { data := #[] }, .string { data := #[] }, .int .u8 0, .int .u8 0, .string { data := #[] }] (Blk.new w3 34 #[.int .u8 0, .int .u64 0, .int .u8 0, .int .u64 0, .int .u64 0, .int .u8 0, .string { data := #[] }, .slice none 0 0, .slice none 0 0, .int .u8 0, .int .u32 0, .int .u8 0, .string { data := #[] }, .string { data := #[] }, .string { data := #[] }, .int .u8 0, .int .u8 0, .string { data := #[] }]) (by kernel_rfl) rfl (msCells_one (ms0 kd) none none 0 0 0 0) ?_) | fail)
      obtain ⟨g, hg⟩ : ∃ g, g = w3.heap.size := ⟨_, rfl⟩
      obtain ⟨w4, hw4⟩ : ∃ w4, w4 = (w3.alloc (.cells #[.int .u8 0, .int .u64 0, .int .u8 0, .int .u64 0, .int .u64 0, .int .u8 0, .string { data := #[] }, .slice none 0 0, .slice none 0 0, .int .u8 0, .int .u32 0, .int .u8 0, .string { data := #[] }, .string { data := #[] }, .string { data := #[] }, .int .u8 0, .int .u8 0, .string { data := #[] }] 34)).setRow w3.heap.size #[.int .u8 kd, .int .u64 0, .int .u8 0, .int .u64 0, .int .u64 0, .int .u8 0, .string { data := #[] }, .slice none 0 0, .slice none 0 0, .int .u8 0, .int .u32 0, .int .u8 0, .string { data := #[] }, .string { data := #[] }, .string { data := #[] }, .int .u8 0, .int .u8 0, .string { data := #[] }] := ⟨_, rfl⟩
      rw [← hw4, ← hg]
      have hb4 : Blk w4 g 34 (msCells (ms0 kd) (.slice none 0 0) (.slice none 0 0)) := by rw [hw4, hg]; exact Blk.setRow (Blk.new w3 34 #[.int .u8 0, .int .u64 0, .int .u8 0, .int .u64 0, .int .u64 0, .int .u8 0, .string { data := #[] }, .slice none 0 0, .slice none 0 0, .int .u8 0, .int .u32 0, .int .u8 0, .string { data := #[] }, .string { data := #[] }, .string { data := #[] }, .int .u8 0, .int .u8 0, .string { data := #[] }])
      have hu4 : Upd (fun _ => False) w3 w4 := by rw [hw4]; exact ((Upd.refl _ _).alloc _).setRow (.inr (Nat.le_refl _)) _
      have HB4 := Lib.hid hb4
      have HU4 := Lib.hid hu4
      have HGG : Hid (w3.heap.size ≤ g ∧ g < w4.heap.size) := ⟨by rw [hg]; exact Nat.le_refl _, hb4.lt⟩
      have z0 : w4.cell? ⟨g, 0, none⟩ = some (.int .u8 kd) := hb4.cell 0
      clear hw4 hg hb4 hu4
      go_region_held3 (fun wx => wx.cell? ⟨g, 0, none⟩ = some (.int .u8 kd))
        (first
          | exact z0
          | exact (HB4.out.upd HU5.out id).cell 0
          | fail)
        (first
          | (go_at_call 13
             refine (mkinds_any _).mono ?_
             rintro e w5 ⟨mp, f, rfl, hk⟩
             have HU5 : Hid (Upd (fun _ => False) w4 w5) := (Upd.refl _ _).drew.trans hk.upd (fun _ _ h => h)
             obtain ⟨A, nn, c, hkl⟩ := klook hk kd HKD.out.1 HKD.out.2
             have r1 := hkl.run_
             have HKL := Lib.hid hkl
             clear hk hkl)
          | fail)
      have hlen : nn = (ptsOf kd).length := HKL.out.len
      have HLEN := Lib.hid hlen
      have hn5 : nn ≤ 4 := by
        rw [hlen]
        exact ptsOf_len _
      have hn6 : (nn : Int) ≤ 4 := by omega
      clear hlen z0 r1
      go_wp2_with fail
      have HST : Hid (TkL w5 b g kd s nn 0 w5) := by
        refine ⟨⟨ms0 kd, s, .slice none 0 0, .slice none 0 0, by rw [List.take_zero]; rfl, ?_, HK.out.1, HK.out.2.1, HK.out.2.2, HB4.out.upd HU5.out id, OwnM.nil _ _ _ rfl rfl, wf_ms0 _ HKD.out.1 HKD.out.2, ⟨Nat.zero_le _, Nat.zero_le _, Nat.zero_le _, Nat.zero_le _⟩, fun _ => ⟨rfl, rfl, rfl, rfl⟩⟩, Upd.refl _ _⟩
        exact (HTO.out.2.upd HU4.out id).upd HU5.out id
      go_loopw [38] (fun i wr => ∃ k : Nat, k ≤ nn ∧ i = .int .i64 k ∧ TkL w5 b g kd s nn k wr) (fun i _ => nn - (intOf i).toNat)
      case atStart => exact ⟨0, Nat.zero_le _, rfl, HST.out⟩
      case round =>
        obtain ⟨k, hk, rfl, htk⟩ := hrel
        obtain ⟨⟨m, s', vv, vi, t1, t2, t3, t4, t5, t6, t7, t8, t9, t10⟩, tu⟩ := htk
        have HTU := Lib.hid tu
        have HTF := Lib.hid t1
        have HT2 := Lib.hid t2
        have HT3 := Lib.hid (And.intro t3 (And.intro t4 t5))
        have HT6 := Lib.hid t6
        have HT7 := Lib.hid t7
        have HT8 := Lib.hid t8
        have HT9 := Lib.hid t9
        clear t1 t2 t3 t4 t5 t6 t7 t8 t9 tu
        by_cases hlt : k < nn
        · obtain ⟨rfl, rfl, v1, v2⟩ := t10 hlt
          have HV := Lib.hid (And.intro v1 v2)
          clear t10 v1 v2
          obtain ⟨q, p, hA, hp, p0, p1, p2, p3⟩ := HKL.out.cell (F := fun j => j = b ∨ j = g) HTU.out (fun j h1 h2 e => by
            have := HGG.out
            have := HR2.out.lt
            have := HTO.out.1.size
            have := HU4.out.size
            simp at h1
            omega) hlt
          subst hA
          have HP := Lib.hid hp
          unfold fv at p0 p1 p2 p3
          clear hp
          go_upto_region 11 with fail
          obtain ⟨w6, hw6⟩ : ∃ w6, w6 = wr.alloc (.cells #[.func (.func (fPut p)) #[] #[], .func (.func (fTake p)) #[] #[], .func (.func (fMove p)) #[] #[], .func (.func (fMay p)) #[] #[]] 57) := ⟨_, rfl⟩
          rw [← hw6]
          have hu6 : Upd (fun _ => False) wr w6 := by rw [hw6]; exact (Upd.refl _ _).alloc _
          have hb6 : Blk w6 wr.heap.size 57 #[.func (.func (fPut p)) #[] #[], .func (.func (fTake p)) #[] #[], .func (.func (fMove p)) #[] #[], .func (.func (fMay p)) #[] #[]] := by rw [hw6]; exact Blk.new _ _ _
          have s2 : w6.cell? ⟨wr.heap.size, 1, none⟩ = some (.func (.func (fTake p)) #[] #[]) := hb6.cell 1
          have HU6 := Lib.hid hu6
          have htk := Lib.hid (tk_any p (HT2.out.upd hu6 id) HT3.out.1 HT3.out.2.1 m (HT6.out.upd hu6 id) HV.out.1 HV.out.2 (by have := HT3.out.2.2; omega))
          have hcm := call_take p
          clear hw6 hu6 hb6 p0 p1 p2 p3
          go_wp2_with fail
          refine htk.out.mono ?_
          rintro e w7 ⟨rfl, vv', vi', e1, e2, e3, e4, e5⟩
          have HNX : Hid (TkL w5 b g kd s nn (k + 1) w7) := tkL_step HTF.out HP.out HLEN.out HT3.out.1 HT3.out.2.1 HT3.out.2.2 HT8.out HT9.out HV.out.1 HV.out.2 (HTU.out.trans HU6.out (fun _ _ h => h.elim)) e1 e2 (e3.mono (by have := HTU.out.size; have := HU6.out.size; omega)) e4 e5
          clear htk hcm s2 e1 e2 e3 e4 e5
          go_wp2_with fail
          go_roundw
          case rel => exact ⟨k + 1, by omega, by go_num, HNX.out⟩
          case measure => simp [intOf]; omega
        · have hke : k = nn := by omega
          subst hke
          clear t10 hlt hk
          rw [HLEN.out, List.take_of_length_le (Nat.le_refl _)] at HTF
          have HRX : Hid (R = if (pEnd s').2 = 0 ∧ mayM m = true then (m, 0) else (ms0 0, 4)) := by
            show _ = _
            rw [← HRR.out]
            simp only [HTF.out]
          have hub : w1.heap.size ≤ b ∧ b < w2.heap.size := ⟨HBW.out, HR2.out.lt⟩
          have hug := HGG.out
          have hs12 := HU1.out.size
          have hs23 := HU2.out.size
          have hs3 := HTO.out.1.size
          have hs4 := HU4.out.size
          have hs5 := HU5.out.size
          simp at hs12
          have HUW : Hid (Upd (fun _ => False) w wr) := ((((((Upd.refl (fun _ => False) w).alloc (.cells #[.int .u8 0, .int .u64 0, .int .u8 0, .int .u64 0, .int .u64 0, .int .u8 0, .string { data := #[] }, .slice none 0 0, .slice none 0 0, .int .u8 0, .int .u32 0, .int .u8 0, .string { data := #[] }, .string { data := #[] }, .string { data := #[] }, .int .u8 0, .int .u8 0, .string { data := #[] }] 34)).trans HU1.out (fun _ _ h => h)).trans HU2.out (fun _ _ h => h)).trans HTO.out.1 (fun i hi e => by omega)).trans HU4.out (fun _ _ h => h)).trans ((HU5.out.mono (fun _ _ h => h.elim)).trans HTU.out (fun _ _ h => h)) (fun i hi e => by omega)
          have HB0 : Hid (Blk wr w.heap.size 34 #[.int .u8 0, .int .u64 0, .int .u8 0, .int .u64 0, .int .u64 0, .int .u8 0, .string { data := #[] }, .slice none 0 0, .slice none 0 0, .int .u8 0, .int .u32 0, .int .u8 0, .string { data := #[] }, .string { data := #[] }, .string { data := #[] }, .int .u8 0, .int .u8 0, .string { data := #[] }]) := ((((((Blk.new w 34 #[.int .u8 0, .int .u64 0, .int .u8 0, .int .u64 0, .int .u64 0, .int .u8 0, .string { data := #[] }, .slice none 0 0, .slice none 0 0, .int .u8 0, .int .u32 0, .int .u8 0, .string { data := #[] }, .string { data := #[] }, .string { data := #[] }, .int .u8 0, .int .u8 0, .string { data := #[] }]).upd HU1.out id).upd HU2.out id).upd HTO.out.1 (by omega)).upd HU4.out id).upd HU5.out id).upd HTU.out (by omega)
          have hOwn := HT7.out
          obtain ⟨Av, nv, cv, Ai, ni, ci, rfl, rfl⟩ := hOwn.lists.shape
          have HEN := Lib.hid (wend_any HT2.out HT3.out.1)
          have HDJ : Hid (w.heap.size ≠ b ∧ w.heap.size ≠ g ∧ b ≠ g) := ⟨by omega, by omega, by omega⟩
          have HSZ : Hid (w.heap.size ≤ w5.heap.size ∧ b < w5.heap.size ∧ w.heap.size < b) := ⟨by omega, by omega, by omega⟩
          obtain ⟨E, hE⟩ : ∃ E, (pEnd s').2 = E := ⟨_, rfl⟩
          rw [hE] at HEN HRX
          clear hE hub hug hs12 hs23 hs3 hs4 hs5 hOwn
          go_upto_region 13 with fail
          by_cases h0 : E = 0
          · subst h0
            have HCK := Lib.hid (fun (wx : World) (hu : Upd (fun j => j = b) wr wx) => mcheck_any m HT8.out HT9.out ((HT7.out.upd hu (fun k hk e => by have := HSZ.out; omega)).lists))
            unfold mayE msV msCells at HCK
            obtain ⟨mb, hmb⟩ : ∃ b, mayM m = b := ⟨_, rfl⟩
            rw [hmb] at HCK HRX
            clear hmb
            go_wp2_with fail
            refine HEN.out.mono ?_
            rintro e w8 ⟨rfl, hto8⟩
            have HU8 := Lib.hid hto8.1
            have hb8 : Blk w8 g 34 (msCells m (.slice Av nv cv) (.slice Ai ni ci)) := HT6.out.upd hto8.1 (fun e => HDJ.out.2.2 e.symm)
            have HB8 := Lib.hid hb8
            unfold msCells at hb8
            have hlm := load_msg hb8 rfl
            simp [go_sem] at hlm
            clear hto8 hb8
            go_wp2_with fail
            clear hlm
            refine (HCK.out _ HU8.out).mono ?_
            rintro e w9 ⟨rfl, hu9⟩
            have HU9 := Lib.hid (HU8.out.trans hu9 (fun _ _ h => h.elim))
            have HU9w : Hid (Upd (fun _ => False) w w9) := HUW.out.trans HU9.out (fun i hi e => by have := HSZ.out; omega)
            have HB9 : Hid (Blk w9 w.heap.size 34 #[.int .u8 0, .int .u64 0, .int .u8 0, .int .u64 0, .int .u64 0, .int .u8 0, .string { data := #[] }, .slice none 0 0, .slice none 0 0, .int .u8 0, .int .u32 0, .int .u8 0, .string { data := #[] }, .string { data := #[] }, .string { data := #[] }, .int .u8 0, .int .u8 0, .string { data := #[] }]) := HB0.out.upd HU9.out HDJ.out.1
            have HM9 : Hid (Blk w9 g 34 (msCells m (.slice Av nv cv) (.slice Ai ni ci))) := HB8.out.upd hu9 id
            have HO9 : Hid (OwnM w5.heap.size w9 m (.slice Av nv cv) (.slice Ai ni ci)) := HT7.out.upd HU9.out (fun k hk e => by have := HSZ.out; omega)
            clear hu9
            cases mb
            case false =>
              have HZ : Hid (R = (ms0 0, 4)) := by show _ = _; rw [HRX.out, if_neg (by simp)]
              have hrow := HB9.out
              go_wp2_with (first | (refine wpList_store_row rfl 34 (.tmp 2) (.tmp 55) (by rfl) w.heap.size #[.int .u8 0, .int .u64 0, .int .u8 0, .int .u64 0, .int .u64 0, .int .u8 0, .string { data := #[] }, .slice none 0 0, .slice none 0 0, .int .u8 0, .int .u32 0, .int .u8 0, .string { data := #[] }, .string { data := #[] }, .string { data := #[] }, .int .u8 0, .int .u8 0, .string { data := #[] }] (by rfl) (by rfl) 34 _ hrow (by kernel_rfl) rfl zc_one ?_) | fail)
              have hl := load_msg (Blk.setRow (cs := #[.int .u8 0, .int .u64 0, .int .u8 0, .int .u64 0, .int .u64 0, .int .u8 0, .string { data := #[] }, .slice none 0 0, .slice none 0 0, .int .u8 0, .int .u32 0, .int .u8 0, .string { data := #[] }, .string { data := #[] }, .string { data := #[] }, .int .u8 0, .int .u8 0, .string { data := #[] }]) hrow) rfl
              simp [go_sem] at hl
              refine bodyPost_ret (v := .tuple #[.agg #[.int .u8 0, .int .u64 0, .int .u8 0, .int .u64 0, .int .u64 0, .int .u8 0, .string { data := #[] }, .slice none 0 0, .slice none 0 0, .int .u8 0, .int .u32 0, .int .u8 0, .string { data := #[] }, .string { data := #[] }, .string { data := #[] }, .int .u8 0, .int .u8 0, .string { data := #[] }], .int .i64 4]) (by simp [results, Try.results8, go_sem, hl]) rfl ?_
              exact takeR_zero HZ.out (HU9w.out.setRow (.inr (Nat.le_refl _)) _)

            case true =>
              have HZ : Hid (R = (m, 0)) := by show _ = _; rw [HRX.out, if_pos (by simp)]
              have hrow := HB9.out
              have hmrow := HM9.out
              go_wp2_with (first
                | (refine wpList_load_row rfl 34 (.tmp 8) (by rfl) g (by rfl) 34 _ (0, 0) _ hmrow Try.underlying34 rfl (by kernel_rfl) ?_)
                | (refine wpList_store_row rfl 34 (.tmp 2) (.tmp 56) (by rfl) w.heap.size (msCells m (.slice Av nv cv) (.slice Ai ni ci)) (by rfl) (by rfl) 34 _ hrow (by kernel_rfl) rfl (msCells_one _ _ _ _ _ _ _) ?_)
                | fail)
              have hbz := Blk.setRow (cs := msCells m (.slice Av nv cv) (.slice Ai ni ci)) hrow
              have hl := load_msg hbz rfl
              unfold msCells at hl
              simp [go_sem] at hl
              refine bodyPost_ret (v := .tuple #[msV m (.slice Av nv cv) (.slice Ai ni ci), .int .i64 0]) (by unfold msV msCells; simp [results, Try.results8, go_sem, hl]) rfl ?_
              refine ⟨.slice Av nv cv, .slice Ai ni ci, ?_, HU9w.out.setRow (.inr (Nat.le_refl _)) _, ?_⟩
              · rw [HZ.out]
              · rw [HZ.out]
                exact (HO9.out.upd ((Upd.refl (fun j => j = w.heap.size) w9).setRow (.inl rfl) _) (fun k hk e => by have := HSZ.out; omega)).mono HSZ.out.1
          · have hne : (E != 0) = true := bne_iff_ne.2 h0
            have HZ : Hid (R = (ms0 0, 4)) := by show _ = _; rw [HRX.out, if_neg (fun h => h0 h.1)]
            clear h0
            go_wp2_with fail
            refine HEN.out.mono ?_
            rintro e w8 ⟨rfl, hto8⟩
            have HU8w : Hid (Upd (fun _ => False) w w8) := HUW.out.trans hto8.1 (fun i hi e => by have := HSZ.out; omega)
            have HB8 : Hid (Blk w8 w.heap.size 34 #[.int .u8 0, .int .u64 0, .int .u8 0, .int .u64 0, .int .u64 0, .int .u8 0, .string { data := #[] }, .slice none 0 0, .slice none 0 0, .int .u8 0, .int .u32 0, .int .u8 0, .string { data := #[] }, .string { data := #[] }, .string { data := #[] }, .int .u8 0, .int .u8 0, .string { data := #[] }]) := HB0.out.upd hto8.1 HDJ.out.1
            clear hto8
            have hrow := HB8.out
            go_wp2_with (first | (refine wpList_store_row rfl 34 (.tmp 2) (.tmp 55) (by rfl) w.heap.size #[.int .u8 0, .int .u64 0, .int .u8 0, .int .u64 0, .int .u64 0, .int .u8 0, .string { data := #[] }, .slice none 0 0, .slice none 0 0, .int .u8 0, .int .u32 0, .int .u8 0, .string { data := #[] }, .string { data := #[] }, .string { data := #[] }, .int .u8 0, .int .u8 0, .string { data := #[] }] (by rfl) (by rfl) 34 _ hrow (by kernel_rfl) rfl zc_one ?_) | fail)
            have hl := load_msg (Blk.setRow (cs := #[.int .u8 0, .int .u64 0, .int .u8 0, .int .u64 0, .int .u64 0, .int .u8 0, .string { data := #[] }, .slice none 0 0, .slice none 0 0, .int .u8 0, .int .u32 0, .int .u8 0, .string { data := #[] }, .string { data := #[] }, .string { data := #[] }, .int .u8 0, .int .u8 0, .string { data := #[] }]) hrow) rfl
            simp [go_sem] at hl
            refine bodyPost_ret (v := .tuple #[.agg #[.int .u8 0, .int .u64 0, .int .u8 0, .int .u64 0, .int .u64 0, .int .u8 0, .string { data := #[] }, .slice none 0 0, .slice none 0 0, .int .u8 0, .int .u32 0, .int .u8 0, .string { data := #[] }, .string { data := #[] }, .string { data := #[] }, .int .u8 0, .int .u8 0, .string { data := #[] }], .int .i64 4]) (by simp [results, Try.results8, go_sem, hl]) rfl ?_
            exact takeR_zero HZ.out (HU8w.out.setRow (.inr (Nat.le_refl _)) _)
end Go.Proofs.Ytaielcokfpodaaa
