/-
  ChainTails: the walk of the statement's own text. Conditions: none.
-/
import Derived.Test.YtkcehpnppfmfnaaLawCD
import Derived.Test.YtkcehpnppfmfnaaLawCB
import Derived.Deep.RegionHeld3
import Derived.Deep.RegionWith
namespace Go.Proofs.Ytkcehpnppfmfnaa
open Go.RowKit

/-- The directories among the first k. -/
def dirsOf (R : List Int) (k : Nat) : List Int := (R.take k).filter dirB
theorem dirsOf_yes {R : List Int} {k : Nat} (h : k < R.length) (hd : dirB R[k] = true) : dirsOf R (k + 1) = dirsOf R k ++ [R[k]] := by
  unfold dirsOf
  rw [List.take_succ_eq_append_getElem h, List.filter_append]
  simp [hd]
theorem dirsOf_no {R : List Int} {k : Nat} (h : k < R.length) (hd : dirB R[k] = false) : dirsOf R (k + 1) = dirsOf R k := by
  unfold dirsOf
  rw [List.take_succ_eq_append_getElem h, List.filter_append]
  simp [hd]
theorem dirsOf_le (R : List Int) (k : Nat) : (dirsOf R k).length ≤ k := by
  unfold dirsOf
  have := List.length_filter_le dirB (R.take k)
  have := List.length_take_le k R
  omega
theorem dirsOf_dir (R : List Int) (k : Nat) : ∀ x ∈ dirsOf R k, 0 < x ∧ x < 128 := fun _ hx => dirB_true (List.mem_filter.1 hx).2

theorem chnOk_app {M P : List Int} (hM : ChnOk 0 M) (hP : ∀ x ∈ P, 0 < x ∧ x < 128) (hl : M.length + P.length ≤ 1000) : ChnOk 0 (M ++ P) ∧ ChnOk (M.length - 3) (M.drop (M.length - 3) ++ P) := by
  obtain ⟨a, b, c⟩ := hM
  refine ⟨⟨by rw [List.length_append]; omega, by rw [List.length_append]; omega, fun x hx => ?_⟩, ⟨by rw [List.length_append, List.length_drop]; omega, by rw [List.length_append, List.length_drop]; omega, fun x hx => ?_⟩⟩
  · rcases List.mem_append.1 hx with h | h
    · exact c x h
    · exact hP x h
  · rcases List.mem_append.1 hx with h | h
    · exact c x (List.mem_of_mem_drop h)
    · exact hP x h

set_option maxRecDepth 100000 in
set_option maxHeartbeats 16000000 in
theorem chainTails_walk (first : Int) (a1 : Option Addr) (n1 c1 : Nat) (z1 : List Int) (a2 : Option Addr) (n2 c2 : Nat) (z2 : List Int) (w : World)
    (h0 : (Lit.int .u8 first).wf = true) (i1 : IsRow .u8 w a1 n1 c1 z1) (i2 : IsRow .u8 w a2 n2 c2 z2) :
    Calls Try.prog 6 #[.int .u8 first, .slice a1 n1 c1, .slice a2 n2 c2] w fun e w' => e = .returned (.bool true) ∧ Below w.heap.size w w' := by
  obtain ⟨s1, l1, b1⟩ := i1.sl
  obtain ⟨s2, l2, b2⟩ := i2.sl
  have m1 : c1 ≤ maxLen := by obtain ⟨_, _, _, e, _, hm, _⟩ := s1; cases e; exact hm
  have m2 : c2 ≤ maxLen := by obtain ⟨_, _, _, e, _, hm, _⟩ := s2; cases e; exact hm
  have k1 : n1 ≤ c1 := by obtain ⟨_, _, _, e, h, _⟩ := s1; cases e; exact h
  have k2 : n2 ≤ c2 := by obtain ⟨_, _, _, e, h, _⟩ := s2; cases e; exact h
  obtain ⟨hf0, hf1⟩ := wf_u8 h0
  generalize z1.take n1 = C at *
  generalize z2.take n2 = R at *
  clear i1 i2 h0
  unfold maxLen at m1 m2
  have j1 : (n1 : Int) ≤ 9223372036854775807 := by omega
  have j2 : (n2 : Int) ≤ 9223372036854775807 := by omega
  by_cases hbig : 60 < n1 ∨ 60 < n2
  · clear s1 l1 b1 s2 l2 b2
    by_cases h1 : 60 < n1
    · clear hbig
      go_enter Try.func6, Try.ntmps6
      go_wp2_with fail
      refine (wakes_true _).mono ?_
      rintro e w1 ⟨rfl, hu⟩
      go_wp2_with fail
      go_ret
      exact ⟨rfl, hu.below⟩
    · have h2 : 60 < n2 := by omega
      clear hbig
      go_enter Try.func6, Try.ntmps6
      go_wp2_with fail
      refine (wakes_true _).mono ?_
      rintro e w1 ⟨rfl, hu⟩
      go_wp2_with fail
      go_ret
      exact ⟨rfl, hu.below⟩
  · have h1 : n1 ≤ 60 := by omega
    have h2 : n2 ≤ 60 := by omega
    have g1 : decide ((60 : Int) < (n1 : Int)) = false := decide_eq_false (by omega)
    have g2 : decide ((60 : Int) < (n2 : Int)) = false := decide_eq_false (by omega)
    have HP := Lib.hid (pushed_some first (.slice a1 n1 c1) n1 C w _ hf0 hf1 l1 (fun x hx => wf_u8 (b1 x hx)) (by omega) s1)
    have S2 := Lib.hid s2
    have L1 := Lib.hid l1
    have L2 := Lib.hid l2
    have B2 := Lib.hid b2
    clear hbig s1 s2 l1 l2 b1 b2
    go_enter Try.func6, Try.ntmps6
    go_wp2_with fail
    refine HP.out.mono ?_
    rintro e w1 ⟨q, rfl, hu1, hq⟩
    have HU1 := Lib.hid hu1
    clear hu1
    rcases hq with rfl | ⟨hdx, _, Fx, hFx, hCx⟩
    · go_wp2_with fail
      refine (wakes_true _).mono ?_
      rintro e w2 ⟨rfl, hu⟩
      go_wp2_with fail
      go_ret
      exact ⟨rfl, (HU1.out.trans hu (fun _ _ h => h)).below⟩
    · obtain ⟨bx, ebx⟩ := hCx.ptr
      cases ebx
      obtain ⟨M, hM⟩ : ∃ M, M = first :: C := ⟨_, rfl⟩
      have hMl : M.length = n1 + 1 := by rw [hM]; simp [L1.out]
      have hok : ChnOk 0 M := by rw [hM]; exact chnOk_of_dirs hdx (by rw [L1.out]; omega)
      rw [← hM] at hCx hdx
      have HM := Lib.hid hM
      clear hM
      obtain ⟨lo, hlo⟩ : ∃ lo, lo = M.length - 3 := ⟨_, rfl⟩
      have hTl : (M.drop lo).length = min M.length 3 := by rw [List.length_drop]; omega
      have hTb : ∀ x ∈ M.drop lo, 0 ≤ x ∧ x ≤ 255 := fun x hx => by have := hok.2.2 x (List.mem_of_mem_drop hx); omega
      have HT1 := fun n => top_any (hCx.drewN n) hok
      have HT2 := fun n => tail_any (hCx.drewN n) hok (by omega)
      rw [← hlo] at HT2
      have HOf := fun wx => of_walk ((M.length : Int) - 1) (strOfNums (M.drop lo)) wx lo (by omega) (by omega) (by rw [strOfNums_size, hTl]; omega) (by rw [strOfNums_size, hTl]; omega)
      rw [nums_strOf _ hTb] at HOf
      have hdT : dirsB (M.drop lo) = true := List.all_eq_true.2 fun x hx => List.all_eq_true.1 hdx x (List.mem_of_mem_drop hx)
      have HCX := Lib.hid hCx
      have HFX := Lib.hid hFx
      have HK := Lib.hid hok
      have HML := Lib.hid hMl
      have HLO := Lib.hid hlo
      have HTB := Lib.hid hTb
      have HTL := Lib.hid hTl
      have HDT := Lib.hid hdT
      have H1 := Lib.hid HT1
      have H2 := Lib.hid HT2
      have H3 := Lib.hid HOf
      clear HT1 HT2 HOf hCx hFx hok hMl hlo hTb hTl hdT hdx
      go_wp2_with fail
      refine (H1.out 0).mono ?_
      rintro e w' ⟨rfl, q1, rfl⟩
      go_wp2_with fail
      refine (H2.out _).mono ?_
      rintro e w2 ⟨rfl, hu2⟩
      have HU2 := Lib.hid (((Upd.refl (fun _ => False) w1).drewN q1).trans (show Upd (fun _ => False) (w1.drewN q1) w2 from by simpa using hu2) (fun _ _ h => h))
      clear hu2
      go_wp2_with fail
      refine (H3.out w2).mono ?_
      rintro e w3 hor
      obtain ⟨p, rfl, hu3, Fy, hFy, hCy⟩ : ∃ p, e = .returned (.tuple #[p, .int .i64 0]) ∧ ChnNew w2 p lo (M.drop lo) w3 := by
        rcases hor with ⟨hno, _⟩ | ⟨_, h⟩
        · rw [HDT.out] at hno; cases hno
        · exact h
      obtain ⟨by_, eby⟩ := hCy.ptr
      cases eby
      have HU3 := Lib.hid hu3
      have HCY := Lib.hid hCy
      have HFY := Lib.hid hFy
      clear hor hu3 hCy hFy
      have HX3 : Hid (Chn w3 Fx (.pointer (some ⟨bx, 0, none⟩)) 0 M) := (HCX.out.upd HU2.out (fun _ _ h => h)).upd HU3.out (fun _ _ h => h)
      have HCP := Lib.hid (copy_any HX3.out (by rw [HML.out]; omega))
      go_wp2_with fail
      refine HCP.out.mono ?_
      rintro e w4 ⟨p, rfl, hu4, Fz, hFz, hCz⟩
      obtain ⟨bz, ebz⟩ := hCz.ptr
      cases ebz
      have HU4 := Lib.hid hu4
      have hlo := HLO.out
      have hml := HML.out
      have ht4 : Three' w w4 (.pointer (some ⟨bx, 0, none⟩)) (.pointer (some ⟨by_, 0, none⟩)) (.pointer (some ⟨bz, 0, none⟩)) 0 lo 0 M (M.drop lo) M := by
        have hu1 := HU1.out
        have hu2 := HU2.out
        have hu3 := HU3.out
        have q1 := hu1.size
        have q2 := hu2.size
        have q3 := hu3.size
        have q4 := hu4.size
        refine ⟨((hu1.trans hu2 (fun _ _ h => h)).trans hu3 (fun _ _ h => h)).trans hu4 (fun _ _ h => h), Fx, Fy, Fz, fun k hk => ?_, fun k hk => ?_, fun k hk => ?_, fun k hk hk' => ?_, fun k hk hk' => ?_, fun k hk hk' => ?_, HX3.out.upd hu4 (fun _ _ h => h), HCY.out.upd hu4 (fun _ _ h => h), hCz⟩
        · have := HFX.out k hk; omega
        · have := HFY.out k hk; omega
        · have := hFz k hk; omega
        · have := HFX.out k hk; have := HFY.out k hk'; omega
        · have := HFX.out k hk; have := hFz k hk'; omega
        · have := HFY.out k hk; have := hFz k hk'; omega
      have HT4 := Lib.hid ht4
      clear hu4 hCz hFz ht4
      obtain ⟨Gz, cz, closez⟩ := HT4.out.z
      have htz := top_any cz HK.out
      have hrz := fun n => rel_ok (cz.drewN n) HK.out ((M.length : Int) - 1) (by omega) (by omega) (by omega)
      have hrl : relLow 0 ((M.length : Int) - 1) = lo := by
        unfold relLow bh
        split <;> omega
      rw [hrl, Nat.sub_zero] at hrz
      have HTZ := Lib.hid htz
      have HRZ := Lib.hid hrz
      have HCLZ := Lib.hid closez
      clear cz htz hrz closez hrl hml hlo
      go_wp2_with fail
      refine HTZ.out.mono ?_
      rintro e w' ⟨rfl, q2, rfl⟩
      go_wp2_with fail
      refine (HRZ.out q2).mono ?_
      rintro e w5 ⟨rfl, hto⟩
      have HT5 := Lib.hid (HCLZ.out w5 lo (M.drop lo) hto.of_drewN)
      clear hto
      obtain ⟨T, hT⟩ : ∃ T, T = M.drop lo := ⟨_, rfl⟩
      rw [← hT] at HT5 HTL
      have hTT : T.drop (T.length - 3) = T := by rw [HTL.out, show min M.length 3 - 3 = 0 from by omega, List.drop_zero]
      have hokT : ChnOk lo T := by
        have := (chnOk_app (P := []) HK.out (by simp) (by rw [HML.out]; simp; omega)).2
        rw [← HLO.out, ← hT, List.append_nil] at this
        exact this
      have HKT := Lib.hid hokT
      obtain ⟨_, cz5, _⟩ := HT5.out.z
      obtain ⟨_, cx5, _⟩ := HT5.out.x
      have htz := tail_any cz5 hokT (by rw [HTL.out]; omega)
      rw [hTT] at htz
      have HTZ := Lib.hid htz
      have HTE := Lib.hid hT
      clear htz hTT hokT cz5 cx5 hT
      go_wp2_with fail
      refine HTZ.out.mono ?_
      rintro e w6 ⟨rfl, hu6⟩
      have HT6 := Lib.hid (HT5.out.still hu6)
      obtain ⟨_, cx6, _⟩ := HT6.out.x
      have htx := tail_any cx6 HK.out (by rw [HML.out]; omega)
      rw [← HLO.out, ← HTE.out] at htx
      have HTX := Lib.hid htx
      clear htx cx6 hu6
      go_wp2_with fail
      refine HTX.out.mono ?_
      rintro e w7 ⟨rfl, hu7⟩
      have HT7 := Lib.hid (HT6.out.still hu7)
      obtain ⟨_, cx7, _⟩ := HT7.out.x
      have htp := top_any cx7 HK.out
      have HTP := Lib.hid htp
      clear htp cx7 hu7
      go_wp2_with fail
      refine HTP.out.mono ?_
      rintro e w' ⟨rfl, q8, rfl⟩
      go_wp2_with fail
      clear g1 g2
      go_loopw [12] (fun i wr => ∃ k : Nat, k ≤ n2 ∧ i = .int .i64 k ∧ Three' w wr (.pointer (some ⟨bx, 0, none⟩)) (.pointer (some ⟨by_, 0, none⟩)) (.pointer (some ⟨bz, 0, none⟩)) 0 lo lo (M ++ dirsOf R k) (T ++ dirsOf R k) (T ++ dirsOf R k)) (fun i _ => n2 - (intOf i).toNat)
      case atStart => exact ⟨0, Nat.zero_le _, rfl, by simpa [dirsOf] using HT7.out.drewN q8⟩
      case round =>
        obtain ⟨k, hk, rfl, ht⟩ := hrel
        have hml := HML.out
        have htl := HTL.out
        have hpl := dirsOf_le R k
        obtain ⟨okX, okY⟩ := chnOk_app HK.out (dirsOf_dir R k) (by omega)
        rw [← HLO.out, ← HTE.out] at okY
        by_cases hlt : k < n2
        · have hkR : k < R.length := by rw [L2.out]; exact hlt
          obtain ⟨bb, oo, cc, e, hbl, _, hcell⟩ := S2.out.at_ hlt
          simp only [Value.slice.injEq, true_and] at e
          obtain ⟨rfl, rfl⟩ := e
          have hcr : ∀ wx, Upd (fun _ => False) w wx → wx.cell? ⟨bb, oo + k, none⟩ = some (.int .u8 R[k]) := fun wx hu => by
            rw [hu.cell (p := ⟨bb, oo + k, none⟩) hbl id, hcell, List.getElem?_map, List.getElem?_eq_getElem hkR]; rfl
          have hxb := wf_u8 (B2.out R[k] (List.getElem_mem hkR))
          have HCR := Lib.hid hcr
          have hcw := hcr wr ht.upd
          clear hcr hcell
          have e5 : (k : Int) < (n2 : Int) := by omega
          by_cases hdx : dirB R[k] = true
          · have hdy := dirsOf_yes hkR hdx
            have HDY := Lib.hid hdy
            have HT := Lib.hid ht
            have HXB := Lib.hid hxb
            have HDX := Lib.hid hdx
            have HOX := Lib.hid okX
            have HOY := Lib.hid okY
            have HLX : Hid ((M ++ dirsOf R k).length ≤ 1000) := by show (M ++ dirsOf R k).length ≤ 1000; rw [List.length_append]; omega
            have HLY : Hid (lo + (T ++ dirsOf R k).length ≤ 1000) := by show lo + (T ++ dirsOf R k).length ≤ 1000; have := HLO.out; rw [List.length_append]; omega
            clear hdy ht hdx okX okY hml htl hpl
            generalize R[k] = x at *
            go_wp2_with fail
            go_region_held3 (fun wx => wx.cell? ⟨bb, oo + k, none⟩ = some (.int .u8 x))
              (first
                | exact HCR.out _ HT.out.drew.upd
                | exact HCR.out _ tx.upd
                | exact HCR.out _ ty.upd
                | exact HCR.out _ tz.upd)
              (first
                | (go_at_call_of 15 (Value.pointer (some ⟨bx, 0, none⟩))
                   obtain ⟨Gx, cx, closex⟩ := HT.out.drew.x
                   refine (push_ok cx HOX.out x HXB.out.1 HXB.out.2 HDX.out (by have := HLX.out; omega) (by have := HLX.out; omega)).mono ?_
                   rintro e wx1 ⟨rfl, hto⟩
                   have tx := closex _ _ _ hto)
                | (go_at_call_of 15 (Value.pointer (some ⟨by_, 0, none⟩))
                   obtain ⟨Gy, cy, closey⟩ := tx.y
                   refine (push_ok cy HOY.out x HXB.out.1 HXB.out.2 HDX.out (by have := HLY.out; omega) (by have := HLY.out; omega)).mono ?_
                   rintro e wx2 ⟨rfl, hto2⟩
                   have ty := closey _ _ _ hto2)
                | (go_at_call_of 15 (Value.pointer (some ⟨bz, 0, none⟩))
                   obtain ⟨Gz', cz', closez'⟩ := ty.z
                   refine (push_ok cz' HOY.out x HXB.out.1 HXB.out.2 HDX.out (by have := HLY.out; omega) (by have := HLY.out; omega)).mono ?_
                   rintro e wx3 ⟨rfl, hto3⟩
                   have tz := closez' _ _ _ hto3))
            go_wp2_with fail
            go_roundw
            case rel => exact ⟨k + 1, by omega, by go_num, by rw [HDY.out, ← List.append_assoc, ← List.append_assoc]; exact tz⟩
            case measure => simp [intOf]; omega
          · have hdx' : dirB R[k] = false := by simpa using hdx
            have hdy := dirsOf_no hkR hdx'
            have HDY := Lib.hid hdy
            have HT := Lib.hid ht
            have HXB := Lib.hid hxb
            have HDX := Lib.hid hdx'
            clear hdy ht hdx hdx' okX okY hml htl hpl
            generalize R[k] = x at *
            go_wp2_with fail
            go_region_held3 (fun wx => wx.cell? ⟨bb, oo + k, none⟩ = some (.int .u8 x))
              (exact HCR.out _ HT.out.drew.upd)
              (first
                | (go_at_call_of 15 (Value.pointer (some ⟨bx, 0, none⟩)); refine (push_bad bx x _ HXB.out.1 HXB.out.2 HDX.out).mono ?_; rintro e wx1 ⟨rfl, rfl⟩)
                | (go_at_call_of 15 (Value.pointer (some ⟨by_, 0, none⟩)); refine (push_bad by_ x _ HXB.out.1 HXB.out.2 HDX.out).mono ?_; rintro e wx1 ⟨rfl, rfl⟩)
                | (go_at_call_of 15 (Value.pointer (some ⟨bz, 0, none⟩)); refine (push_bad bz x _ HXB.out.1 HXB.out.2 HDX.out).mono ?_; rintro e wx1 ⟨rfl, rfl⟩))
            go_wp2_with fail
            go_roundw
            case rel => exact ⟨k + 1, by omega, by go_num, by rw [HDY.out]; exact HT.out.drew⟩
            case measure => simp [intOf]; omega
        · have hkn : k = n2 := by omega
          subst hkn
          generalize dirsOf R k = P at *
          have HT := Lib.hid ht
          have HOX := Lib.hid okX
          have HOY := Lib.hid okY
          have HLM : Hid ((M ++ P).length = M.length + P.length) := List.length_append
          have HLT : Hid ((T ++ P).length = T.length + P.length) := List.length_append
          have hml2 : (M.length : Int) ≤ 61 := by omega
          have hml3 : (1 : Int) ≤ (M.length : Int) := by omega
          have hpl2 : (P.length : Int) ≤ 60 := by omega
          have HPL := Lib.hid hpl
          clear ht okX okY hml htl hpl hlt
          have HTOP : Hid (∀ wx, Three' w wx (.pointer (some ⟨bx, 0, none⟩)) (.pointer (some ⟨by_, 0, none⟩)) (.pointer (some ⟨bz, 0, none⟩)) 0 lo lo (M ++ P) (T ++ P) (T ++ P) →
              Calls Try.prog 11 #[.pointer (some ⟨bx, 0, none⟩)] wx fun e w' => e = .returned (.int .u64 ((M.length : Int) + (P.length : Int) - 1)) ∧ ∃ n, w' = wx.drewN n) := fun wx h => by
            obtain ⟨_, c, _⟩ := h.x
            have := top_any c HOX.out
            rw [HLM.out] at this
            have e : ((0 : Nat) : Int) + ((M.length + P.length : Nat) : Int) - 1 = (M.length : Int) + (P.length : Int) - 1 := by omega
            rw [e] at this
            exact this
          have HATX : Hid (∀ (wx : World) (s : Int), Three' w wx (.pointer (some ⟨bx, 0, none⟩)) (.pointer (some ⟨by_, 0, none⟩)) (.pointer (some ⟨bz, 0, none⟩)) 0 lo lo (M ++ P) (T ++ P) (T ++ P) → (M.length : Int) ≤ s → s ≤ 1000 →
              Calls Try.prog 10 #[.pointer (some ⟨bx, 0, none⟩), .int .u64 s] wx fun e w' => e = .returned (.tuple #[.int .u8 (atS 0 (M ++ P) s), .bool (decide (s ≤ (M.length : Int) + (P.length : Int) - 1 + 3))]) ∧ ∃ n, w' = wx.drewN n) := fun wx s h h1 h2 => by
            obtain ⟨_, c, _⟩ := h.x
            have := at_any c HOX.out s (by omega) (by omega)
            rw [(at_same M P s h1 (by omega)).2.2] at this
            exact this
          have HATY : Hid (∀ (wx : World) (s : Int), Three' w wx (.pointer (some ⟨bx, 0, none⟩)) (.pointer (some ⟨by_, 0, none⟩)) (.pointer (some ⟨bz, 0, none⟩)) 0 lo lo (M ++ P) (T ++ P) (T ++ P) → (M.length : Int) ≤ s → s ≤ 1000 →
              Calls Try.prog 10 #[.pointer (some ⟨by_, 0, none⟩), .int .u64 s] wx fun e w' => e = .returned (.tuple #[.int .u8 (atS 0 (M ++ P) s), .bool (decide (s ≤ (M.length : Int) + (P.length : Int) - 1 + 3))]) ∧ ∃ n, w' = wx.drewN n) := fun wx s h h1 h2 => by
            obtain ⟨_, c, _⟩ := h.y
            have := at_any c HOY.out s (by omega) (by omega)
            obtain ⟨q1, q2, q3⟩ := at_same M P s h1 (by omega)
            rw [← HLO.out, ← HTE.out] at q1 q2
            rw [q1, q2, q3] at this
            exact this
          have HATZ : Hid (∀ (wx : World) (s : Int), Three' w wx (.pointer (some ⟨bx, 0, none⟩)) (.pointer (some ⟨by_, 0, none⟩)) (.pointer (some ⟨bz, 0, none⟩)) 0 lo lo (M ++ P) (T ++ P) (T ++ P) → (M.length : Int) ≤ s → s ≤ 1000 →
              Calls Try.prog 10 #[.pointer (some ⟨bz, 0, none⟩), .int .u64 s] wx fun e w' => e = .returned (.tuple #[.int .u8 (atS 0 (M ++ P) s), .bool (decide (s ≤ (M.length : Int) + (P.length : Int) - 1 + 3))]) ∧ ∃ n, w' = wx.drewN n) := fun wx s h h1 h2 => by
            obtain ⟨_, c, _⟩ := h.z
            have := at_any c HOY.out s (by omega) (by omega)
            obtain ⟨q1, q2, q3⟩ := at_same M P s h1 (by omega)
            rw [← HLO.out, ← HTE.out] at q1 q2
            rw [q1, q2, q3] at this
            exact this
          go_wp2_with fail
          obtain ⟨wo, hwo⟩ : ∃ wo : World, wo = wr := ⟨_, rfl⟩
          rw [← hwo] at HT ⊢
          clear hwo
          go_loopw [16] (fun s wq => ∃ j q : Nat, j ≤ P.length + 5 ∧ s = .int .u64 ((M.length : Int) + (j : Int)) ∧ wq = wo.drewN q) (fun s _ => M.length + P.length + 5 - (intOf s).toNat)
          case atStart => exact ⟨0, 0, by omega, by simp, rfl⟩
          case round =>
            obtain ⟨j, q, hj, rfl, rfl⟩ := hrel
            by_cases hin : j ≤ P.length + 2
            · have hs1 : decide ((M.length : Int) + (j : Int) ≤ (M.length : Int) + (P.length : Int) - 1 + 3) = true := decide_eq_true (by omega)
              have HX := Lib.hid (fun q => HATX.out _ ((M.length : Int) + (j : Int)) (HT.out.drewN q) (by omega) (by omega))
              have HY := Lib.hid (fun q => HATY.out _ ((M.length : Int) + (j : Int)) (HT.out.drewN q) (by omega) (by omega))
              have HZ := Lib.hid (fun q => HATZ.out _ ((M.length : Int) + (j : Int)) (HT.out.drewN q) (by omega) (by omega))
              rw [decide_eq_true (by omega)] at HX HY HZ
              go_wp2_with fail
              refine (HTOP.out _ (HT.out.drewN _)).mono ?_
              rintro e w' ⟨rfl, qa, rfl⟩
              go_wp2_with fail
              refine (HX.out _).mono ?_
              rintro e w' ⟨rfl, qb, rfl⟩
              go_wp2_with fail
              refine (HY.out _).mono ?_
              rintro e w' ⟨rfl, qc, rfl⟩
              go_wp2_with fail
              refine (HZ.out _).mono ?_
              rintro e w' ⟨rfl, qe, rfl⟩
              go_wp2_with fail
              refine (HTOP.out _ (HT.out.drewN _)).mono ?_
              rintro e w' ⟨rfl, qf, rfl⟩
              go_wp2_with fail
              go_roundw
              case rel => exact ⟨j + 1, _, by omega, by go_num, rfl⟩
              case measure => simp [intOf]; omega
            by_cases hin2 : j ≤ P.length + 4
            · have hs1 : decide ((M.length : Int) + (j : Int) ≤ (M.length : Int) + (P.length : Int) - 1 + 3) = false := decide_eq_false (by omega)
              have HX := Lib.hid (fun q => HATX.out _ ((M.length : Int) + (j : Int)) (HT.out.drewN q) (by omega) (by omega))
              have HY := Lib.hid (fun q => HATY.out _ ((M.length : Int) + (j : Int)) (HT.out.drewN q) (by omega) (by omega))
              have HZ := Lib.hid (fun q => HATZ.out _ ((M.length : Int) + (j : Int)) (HT.out.drewN q) (by omega) (by omega))
              rw [decide_eq_false (by omega)] at HX HY HZ
              go_wp2_with fail
              refine (HTOP.out _ (HT.out.drewN _)).mono ?_
              rintro e w' ⟨rfl, qa, rfl⟩
              go_wp2_with fail
              refine (HX.out _).mono ?_
              rintro e w' ⟨rfl, qb, rfl⟩
              go_wp2_with fail
              refine (HY.out _).mono ?_
              rintro e w' ⟨rfl, qc, rfl⟩
              go_wp2_with fail
              refine (HZ.out _).mono ?_
              rintro e w' ⟨rfl, qe, rfl⟩
              go_wp2_with fail
              refine (HTOP.out _ (HT.out.drewN _)).mono ?_
              rintro e w' ⟨rfl, qf, rfl⟩
              go_wp2_with fail
              go_roundw
              case rel => exact ⟨j + 1, _, by omega, by go_num, rfl⟩
              case measure => simp [intOf]; omega
            · have hje : j = P.length + 5 := by omega
              subst hje
              clear hin hin2 hj
              go_wp2_with fail
              refine (HTOP.out _ (HT.out.drewN _)).mono ?_
              rintro e w' ⟨rfl, qa, rfl⟩
              go_wp2_with fail
              obtain ⟨_, cy, _⟩ := HT.out.y
              obtain ⟨_, cz, _⟩ := HT.out.z
              have hty := top_any cy HOY.out
              have htz := top_any cz HOY.out
              have elo : (lo : Int) + (((T ++ P).length : Nat) : Int) - 1 = (M.length : Int) + (P.length : Int) - 1 := by
                rw [HLT.out, HTL.out]; have := HLO.out; omega
              rw [elo] at hty htz
              have HTY := Lib.hid (fun q => (show Calls Try.prog 11 #[.pointer (some ⟨by_, 0, none⟩)] (wo.drewN q) _ from by
                have := top_any (cy.drewN q) HOY.out
                rw [elo] at this
                exact this))
              have HTZ2 := Lib.hid (fun q => (show Calls Try.prog 11 #[.pointer (some ⟨bz, 0, none⟩)] (wo.drewN q) _ from by
                have := top_any (cz.drewN q) HOY.out
                rw [elo] at this
                exact this))
              clear hty htz cy cz elo
              refine (HTOP.out _ (HT.out.drewN _)).mono ?_
              rintro e w' ⟨rfl, qb, rfl⟩
              go_wp2_with fail
              refine (HTY.out _).mono ?_
              rintro e w' ⟨rfl, qc, rfl⟩
              go_wp2_with fail
              refine (HTOP.out _ (HT.out.drewN _)).mono ?_
              rintro e w' ⟨rfl, qe, rfl⟩
              go_wp2_with fail
              refine (HTZ2.out _).mono ?_
              rintro e w' ⟨rfl, qf, rfl⟩
              go_wp2_with fail
              obtain ⟨_, cx, _⟩ := (HT.out.drewN (q + qa + qb + qc + qe + qf)).x
              have htx := tail_any cx HOX.out (by rw [HLM.out]; omega)
              rw [tails_same M P (by omega), ← HLO.out, ← HTE.out] at htx
              refine htx.mono ?_
              rintro e w8 ⟨rfl, hu8⟩
              have HT8 := Lib.hid ((HT.out.drewN (q + qa + qb + qc + qe + qf)).still hu8)
              clear htx hu8 cx
              go_wp2_with fail
              obtain ⟨_, cy8, _⟩ := HT8.out.y
              refine (tail_any cy8 HOY.out (by rw [HLT.out]; have := HTL.out; omega)).mono ?_
              rintro e w9 ⟨rfl, hu9⟩
              have HT9 := Lib.hid (HT8.out.still hu9)
              clear hu9 cy8
              go_wp2_with fail
              have HSX : Hid (∀ (wx : World) (a b : Int), Three' w wx (.pointer (some ⟨bx, 0, none⟩)) (.pointer (some ⟨by_, 0, none⟩)) (.pointer (some ⟨bz, 0, none⟩)) 0 lo lo (M ++ P) (T ++ P) (T ++ P) → a = (M.length : Int) → 0 ≤ b → b ≤ 1000 →
                  Calls Try.prog 19 #[.pointer (some ⟨bx, 0, none⟩), .int .u64 a, .int .u64 b] wx fun e w' => e = .returned (.int .u8 (spanF (knL 0 (M ++ P) (M.length : Int) b))) ∧ Upd (fun _ => False) wx w') := fun wx a b h ha hb1 hb2 => by
                subst ha
                obtain ⟨_, c, _⟩ := h.x
                exact span_any c HOX.out _ b (by omega) (by omega) hb1 (by omega)
              have HSY : Hid (∀ (wx : World) (a b : Int), Three' w wx (.pointer (some ⟨bx, 0, none⟩)) (.pointer (some ⟨by_, 0, none⟩)) (.pointer (some ⟨bz, 0, none⟩)) 0 lo lo (M ++ P) (T ++ P) (T ++ P) → a = (M.length : Int) → 0 ≤ b → b ≤ 1000 →
                  Calls Try.prog 19 #[.pointer (some ⟨by_, 0, none⟩), .int .u64 a, .int .u64 b] wx fun e w' => e = .returned (.int .u8 (spanF (knL 0 (M ++ P) (M.length : Int) b))) ∧ Upd (fun _ => False) wx w') := fun wx a b h ha hb1 hb2 => by
                subst ha
                obtain ⟨_, c, _⟩ := h.y
                have := span_any c HOY.out (M.length : Int) b (by omega) (by omega) hb1 (by omega)
                have e := knL_same M P (by omega) b
                rw [← HLO.out, ← HTE.out] at e
                rw [e] at this
                exact this
              refine (HSX.out _ _ _ HT9.out (by omega) (by omega) (by omega)).mono ?_
              rintro e w10 ⟨rfl, hu10⟩
              have HT10 := Lib.hid (HT9.out.still hu10)
              clear hu10
              go_wp2_with fail
              refine (HSY.out _ _ _ HT10.out (by omega) (by omega) (by omega)).mono ?_
              rintro e w11 ⟨rfl, hu11⟩
              have HT11 := Lib.hid (HT10.out.still hu11)
              clear hu11
              go_wp2_with fail
              refine (wakes_true _).mono ?_
              rintro e w12 ⟨rfl, hu12⟩
              have HT12 := Lib.hid (HT11.out.still hu12)
              clear hu12
              go_wp2_with fail
              go_ret
              exact ⟨rfl, HT12.out.upd.below⟩
end Go.Proofs.Ytkcehpnppfmfnaa
