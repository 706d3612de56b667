/-
  Layer 18, messages: the kinds. Conditions: none.
-/
import Derived.Test.YtaielcokfpodaaaMsgA
namespace Go.Proofs.Ytaielcokfpodaaa
open Go.RowKit Go.Maps

def vR (v : Value) : Option (DataW Value × List MemPlace) := some (.held v, [])
theorem vR_inv (v : Value) (x : Value) (ps : List MemPlace) (h : vR v = some (.held x, ps)) : v = x := by
  simp only [vR, Option.some.injEq, Prod.mk.injEq, DataW.held.injEq] at h
  exact h.1
theorem zeroP (w : World) : (zeroValue 50).run Try.prog w = .ok (.slice none 0 0) w := by kernel_rfl

/-- The kinds' map, some of it. -/
structure KInv (w : World) (m : Nat) (ks : List Int) (f : Int → Option Value) (n : Nat) (wr : World) : Prop where
  upd : Upd (fun _ => False) w wr
  lo : w.heap.size ≤ m
  map : MapE wr vR m n f
  keys : ∀ k, (f k).isSome = decide (k ∈ ks)
  rows : ∀ k s, f k = some s → ∃ g, w.heap.size ≤ g ∧ s = .slice (some ⟨g, 0, none⟩) (ptsOf k).length (ptsOf k).length ∧ Blk wr g 57 ((ptsOf k).flatMap ptCells).toArray

theorem blk_ne_mapE {w : World} {b m n : Nat} {t : TypeId} {cs : Array Value} {α : Type} {R : Value → Option (DataW α × List MemPlace)} {f : Int → Option α} (h : Blk w b t cs) (hm : MapE w R m n f) : b ≠ m := by
  rintro rfl
  obtain ⟨D, ⟨es, clock, hb, _⟩, _⟩ := hm
  unfold Blk at h
  rw [h] at hb
  cases hb

theorem KInv.start (w : World) : KInv w w.heap.size [] (fun _ => none) 0 (w.alloc (.map #[] 0)) :=
  ⟨(Upd.refl _ _).alloc _, Nat.le_refl _, MapE.made w vR rfl, fun _ => rfl, fun _ _ h => by cases h⟩
theorem KInv.still {w : World} {m : Nat} {ks : List Int} {f : Int → Option Value} {n : Nat} {wr wc : World} (h : KInv w m ks f n wr) (hu : Upd (fun _ => False) wr wc) : KInv w m ks f n wc :=
  ⟨h.upd.trans hu (fun _ _ h => h), h.lo, h.map.upd hu id, h.keys, fun k s hs => by obtain ⟨g, h1, h2, h3⟩ := h.rows k s hs; exact ⟨g, h1, h2, h3.upd hu id⟩⟩
theorem KInv.step {w : World} {m : Nat} {ks : List Int} {f : Int → Option Value} {n : Nat} {wc : World} (h : KInv w m ks f n wc) (hn : n < 1000) (k : Int) (k0 : 0 ≤ k) (k1 : k ≤ 255) (cs : Array Value) (len : Nat) (hc : cs = ((ptsOf k).flatMap ptCells).toArray) (hl : len = (ptsOf k).length) :
    ∃ w', (Instr.mapUpdate 51 (.map (some m)) (.int .u8 k) (.slice (some ⟨wc.heap.size, 0, none⟩) len len)).run Try.prog (wc.alloc (.cells cs 57)) = .ok () w' ∧ KInv w m (k :: ks) (setE f k (.slice (some ⟨wc.heap.size, 0, none⟩) len len)) (n + 1) w' := by
  have ha := h.still ((Upd.refl (fun _ => False) wc).alloc (.cells cs 57))
  obtain ⟨w', hrun, hm, hu⟩ := ha.map.store Try.underlying51 (by simp only [maxLen]; omega) (show vR (.slice (some ⟨wc.heap.size, 0, none⟩) len len) = some (.held (.slice (some ⟨wc.heap.size, 0, none⟩) len len), []) from rfl) (wf_u8_ k0 k1)
  have hlo := h.lo
  refine ⟨w', hrun, ⟨ha.upd.trans hu (fun i hi e => by omega), hlo, hm, fun x => ?_, fun x s hs => ?_⟩⟩
  · by_cases e : x = k
    · subst e; rw [setE_same]; simp
    · rw [setE_other f _ e, h.keys x]
      exact decide_eq_decide.2 (by simp [e])
  · by_cases e : x = k
    · subst e
      rw [setE_same] at hs
      cases hs
      have hb : Blk (wc.alloc (.cells cs 57)) wc.heap.size 57 cs := Blk.new _ _ _
      refine ⟨wc.heap.size, h.upd.size, by rw [hl], ?_⟩
      have := hb.upd hu (blk_ne_mapE hb ha.map)
      rw [hc] at this
      exact this
    · rw [setE_other f _ e] at hs
      obtain ⟨g, h1, h2, h3⟩ := ha.rows x s hs
      exact ⟨g, h1, h2, h3.upd hu (blk_ne_mapE h3 ha.map)⟩

set_option maxRecDepth 100000 in
set_option maxHeartbeats 16000000 in
theorem mkinds_any (w : World) : Calls Try.prog 13 #[] w fun e w' => ∃ m f, e = .returned (.map (some m)) ∧ KInv w m [13, 12, 11, 10, 9, 8, 7, 6, 5, 4, 3, 2, 1] f 13 w' := by
  have hmm := @run_makeMap Try.prog
  have HK := Lib.hid (KInv.start w)
  go_enter Try.func13, Try.ntmps13
  go_wp2_with fail
  refine (wh0_any _).mono ?_
  rintro e w1 ⟨rfl, hu1⟩
  have HK1 := Lib.hid (HK.out.still hu1)
  clear hu1 HK
  unfold ptV fv fPut fTake fMove fMay
  dsimp only
  obtain ⟨v1, r1, hk1⟩ := HK1.out.step (by omega) 1 (by decide) (by decide) #[.func (.func 41) #[] #[], .func (.func 43) #[] #[], .func (.func 45) #[] #[], .func (.func 46) #[] #[]] 1 rfl rfl
  have HK1 := Lib.hid hk1
  clear hk1
  go_wp2_with fail
  refine (nm0_any _).mono ?_
  rintro e w2 ⟨rfl, hu2⟩
  have HK2 := Lib.hid (HK1.out.still hu2)
  clear hu2 HK1
  unfold ptV fv fPut fTake fMove fMay
  dsimp only
  go_wp2_with fail
  refine (rp0_any _).mono ?_
  rintro e w3 ⟨rfl, hu3⟩
  have HK3 := Lib.hid (HK2.out.still hu3)
  clear hu3 HK2
  unfold ptV fv fPut fTake fMove fMay
  dsimp only
  obtain ⟨v3, r3, hk3⟩ := HK3.out.step (by omega) 2 (by decide) (by decide) #[.func (.func 48) #[] #[], .func (.func 49) #[] #[], .func (.func 51) #[] #[], .func (.func 52) #[] #[], .func (.func 53) #[] #[], .func (.func 55) #[] #[], .func (.func 57) #[] #[], .func (.func 58) #[] #[]] 2 rfl rfl
  have HK3 := Lib.hid hk3
  clear hk3
  go_wp2_with fail
  refine (nm0_any _).mono ?_
  rintro e w4 ⟨rfl, hu4⟩
  have HK4 := Lib.hid (HK3.out.still hu4)
  clear hu4 HK3
  unfold ptV fv fPut fTake fMove fMay
  dsimp only
  go_wp2_with fail
  refine (nd0_any _).mono ?_
  rintro e w5 ⟨rfl, hu5⟩
  have HK5 := Lib.hid (HK4.out.still hu5)
  clear hu5 HK4
  unfold ptV fv fPut fTake fMove fMay
  dsimp only
  obtain ⟨v5, r5, hk5⟩ := HK5.out.step (by omega) 3 (by decide) (by decide) #[.func (.func 48) #[] #[], .func (.func 49) #[] #[], .func (.func 51) #[] #[], .func (.func 52) #[] #[], .func (.func 59) #[] #[], .func (.func 60) #[] #[], .func (.func 61) #[] #[], .func (.func 62) #[] #[]] 2 rfl rfl
  have HK5 := Lib.hid hk5
  clear hk5
  go_wp2_with fail
  refine (by0_any _).mono ?_
  rintro e w6 ⟨rfl, hu6⟩
  have HK6 := Lib.hid (HK5.out.still hu6)
  clear hu6 HK5
  unfold ptV fv fPut fTake fMove fMay
  dsimp only
  go_wp2_with fail
  refine (sl0_any _).mono ?_
  rintro e w7 ⟨rfl, hu7⟩
  have HK7 := Lib.hid (HK6.out.still hu7)
  clear hu7 HK6
  unfold ptV fv fPut fTake fMove fMay
  dsimp only
  obtain ⟨v7, r7, hk7⟩ := HK7.out.step (by omega) 4 (by decide) (by decide) #[.func (.func 63) #[] #[], .func (.func 65) #[] #[], .func (.func 67) #[] #[], .func (.func 68) #[] #[], .func (.func 76) #[] #[], .func (.func 77) #[] #[], .func (.func 78) #[] #[], .func (.func 70) #[] #[]] 2 rfl rfl
  have HK7 := Lib.hid hk7
  clear hk7
  go_wp2_with fail
  refine (by0_any _).mono ?_
  rintro e w8 ⟨rfl, hu8⟩
  have HK8 := Lib.hid (HK7.out.still hu8)
  clear hu8 HK7
  unfold ptV fv fPut fTake fMove fMay
  dsimp only
  go_wp2_with fail
  refine (bs0_any _).mono ?_
  rintro e w9 ⟨rfl, hu9⟩
  have HK9 := Lib.hid (HK8.out.still hu9)
  clear hu9 HK8
  unfold ptV fv fPut fTake fMove fMay
  dsimp only
  go_wp2_with fail
  refine (up0_any _).mono ?_
  rintro e w10 ⟨rfl, hu10⟩
  have HK10 := Lib.hid (HK9.out.still hu10)
  clear hu10 HK9
  unfold ptV fv fPut fTake fMove fMay
  dsimp only
  go_wp2_with fail
  refine (vo0_any _).mono ?_
  rintro e w11 ⟨rfl, hu11⟩
  have HK11 := Lib.hid (HK10.out.still hu11)
  clear hu11 HK10
  unfold ptV fv fPut fTake fMove fMay
  dsimp only
  obtain ⟨v11, r11, hk11⟩ := HK11.out.step (by omega) 5 (by decide) (by decide) #[.func (.func 63) #[] #[], .func (.func 65) #[] #[], .func (.func 67) #[] #[], .func (.func 68) #[] #[], .func (.func 72) #[] #[], .func (.func 73) #[] #[], .func (.func 74) #[] #[], .func (.func 75) #[] #[], .func (.func 76) #[] #[], .func (.func 77) #[] #[], .func (.func 78) #[] #[], .func (.func 79) #[] #[], .func (.func 80) #[] #[], .func (.func 81) #[] #[], .func (.func 82) #[] #[], .func (.func 84) #[] #[]] 4 rfl rfl
  have HK11 := Lib.hid hk11
  clear hk11
  go_wp2_with fail
  refine (by0_any _).mono ?_
  rintro e w12 ⟨rfl, hu12⟩
  have HK12 := Lib.hid (HK11.out.still hu12)
  clear hu12 HK11
  unfold ptV fv fPut fTake fMove fMay
  dsimp only
  obtain ⟨v12, r12, hk12⟩ := HK12.out.step (by omega) 6 (by decide) (by decide) #[.func (.func 63) #[] #[], .func (.func 65) #[] #[], .func (.func 67) #[] #[], .func (.func 68) #[] #[]] 1 rfl rfl
  have HK12 := Lib.hid hk12
  clear hk12
  go_wp2_with fail
  refine (by0_any _).mono ?_
  rintro e w13 ⟨rfl, hu13⟩
  have HK13 := Lib.hid (HK12.out.still hu13)
  clear hu13 HK12
  unfold ptV fv fPut fTake fMove fMay
  dsimp only
  go_wp2_with fail
  refine (sl0_any _).mono ?_
  rintro e w14 ⟨rfl, hu14⟩
  have HK14 := Lib.hid (HK13.out.still hu14)
  clear hu14 HK13
  unfold ptV fv fPut fTake fMove fMay
  dsimp only
  go_wp2_with fail
  refine (va0_any _).mono ?_
  rintro e w15 ⟨rfl, hu15⟩
  have HK15 := Lib.hid (HK14.out.still hu15)
  clear hu15 HK14
  unfold ptV fv fPut fTake fMove fMay
  dsimp only
  obtain ⟨v15, r15, hk15⟩ := HK15.out.step (by omega) 7 (by decide) (by decide) #[.func (.func 63) #[] #[], .func (.func 65) #[] #[], .func (.func 67) #[] #[], .func (.func 68) #[] #[], .func (.func 76) #[] #[], .func (.func 77) #[] #[], .func (.func 78) #[] #[], .func (.func 70) #[] #[], .func (.func 87) #[] #[], .func (.func 88) #[] #[], .func (.func 89) #[] #[], .func (.func 90) #[] #[]] 3 rfl rfl
  have HK15 := Lib.hid hk15
  clear hk15
  go_wp2_with fail
  refine (by0_any _).mono ?_
  rintro e w16 ⟨rfl, hu16⟩
  have HK16 := Lib.hid (HK15.out.still hu16)
  clear hu16 HK15
  unfold ptV fv fPut fTake fMove fMay
  dsimp only
  go_wp2_with fail
  refine (sl0_any _).mono ?_
  rintro e w17 ⟨rfl, hu17⟩
  have HK17 := Lib.hid (HK16.out.still hu17)
  clear hu17 HK16
  unfold ptV fv fPut fTake fMove fMay
  dsimp only
  obtain ⟨v17, r17, hk17⟩ := HK17.out.step (by omega) 8 (by decide) (by decide) #[.func (.func 63) #[] #[], .func (.func 65) #[] #[], .func (.func 67) #[] #[], .func (.func 68) #[] #[], .func (.func 76) #[] #[], .func (.func 77) #[] #[], .func (.func 78) #[] #[], .func (.func 70) #[] #[]] 2 rfl rfl
  have HK17 := Lib.hid hk17
  clear hk17
  go_wp2_with fail
  refine (it0_any _).mono ?_
  rintro e w18 ⟨rfl, hu18⟩
  have HK18 := Lib.hid (HK17.out.still hu18)
  clear hu18 HK17
  unfold ptV fv fPut fTake fMove fMay
  dsimp only
  obtain ⟨v18, r18, hk18⟩ := HK18.out.step (by omega) 9 (by decide) (by decide) #[.func (.func 91) #[] #[], .func (.func 92) #[] #[], .func (.func 93) #[] #[], .func (.func 95) #[] #[]] 1 rfl rfl
  have HK18 := Lib.hid hk18
  clear hk18
  go_wp2_with fail
  refine (up0_any _).mono ?_
  rintro e w19 ⟨rfl, hu19⟩
  have HK19 := Lib.hid (HK18.out.still hu19)
  clear hu19 HK18
  unfold ptV fv fPut fTake fMove fMay
  dsimp only
  obtain ⟨v19, r19, hk19⟩ := HK19.out.step (by omega) 10 (by decide) (by decide) #[.func (.func 76) #[] #[], .func (.func 77) #[] #[], .func (.func 78) #[] #[], .func (.func 79) #[] #[]] 1 rfl rfl
  have HK19 := Lib.hid hk19
  clear hk19
  go_wp2_with fail
  refine (by0_any _).mono ?_
  rintro e w20 ⟨rfl, hu20⟩
  have HK20 := Lib.hid (HK19.out.still hu20)
  clear hu20 HK19
  unfold ptV fv fPut fTake fMove fMay
  dsimp only
  go_wp2_with fail
  refine (up0_any _).mono ?_
  rintro e w21 ⟨rfl, hu21⟩
  have HK21 := Lib.hid (HK20.out.still hu21)
  clear hu21 HK20
  unfold ptV fv fPut fTake fMove fMay
  dsimp only
  obtain ⟨v21, r21, hk21⟩ := HK21.out.step (by omega) 11 (by decide) (by decide) #[.func (.func 63) #[] #[], .func (.func 65) #[] #[], .func (.func 67) #[] #[], .func (.func 68) #[] #[], .func (.func 76) #[] #[], .func (.func 77) #[] #[], .func (.func 78) #[] #[], .func (.func 79) #[] #[]] 2 rfl rfl
  have HK21 := Lib.hid hk21
  clear hk21
  go_wp2_with fail
  refine (sl0_any _).mono ?_
  rintro e w22 ⟨rfl, hu22⟩
  have HK22 := Lib.hid (HK21.out.still hu22)
  clear hu22 HK21
  unfold ptV fv fPut fTake fMove fMay
  dsimp only
  go_wp2_with fail
  refine (va0_any _).mono ?_
  rintro e w23 ⟨rfl, hu23⟩
  have HK23 := Lib.hid (HK22.out.still hu23)
  clear hu23 HK22
  unfold ptV fv fPut fTake fMove fMay
  dsimp only
  obtain ⟨v23, r23, hk23⟩ := HK23.out.step (by omega) 12 (by decide) (by decide) #[.func (.func 76) #[] #[], .func (.func 77) #[] #[], .func (.func 78) #[] #[], .func (.func 70) #[] #[], .func (.func 87) #[] #[], .func (.func 88) #[] #[], .func (.func 89) #[] #[], .func (.func 90) #[] #[]] 2 rfl rfl
  have HK23 := Lib.hid hk23
  clear hk23
  go_wp2_with fail
  refine (bs0_any _).mono ?_
  rintro e w24 ⟨rfl, hu24⟩
  have HK24 := Lib.hid (HK23.out.still hu24)
  clear hu24 HK23
  unfold ptV fv fPut fTake fMove fMay
  dsimp only
  go_wp2_with fail
  refine (sl0_any _).mono ?_
  rintro e w25 ⟨rfl, hu25⟩
  have HK25 := Lib.hid (HK24.out.still hu25)
  clear hu25 HK24
  unfold ptV fv fPut fTake fMove fMay
  dsimp only
  go_wp2_with fail
  refine (va0_any _).mono ?_
  rintro e w26 ⟨rfl, hu26⟩
  have HK26 := Lib.hid (HK25.out.still hu26)
  clear hu26 HK25
  unfold ptV fv fPut fTake fMove fMay
  dsimp only
  obtain ⟨v26, r26, hk26⟩ := HK26.out.step (by omega) 13 (by decide) (by decide) #[.func (.func 72) #[] #[], .func (.func 73) #[] #[], .func (.func 74) #[] #[], .func (.func 75) #[] #[], .func (.func 76) #[] #[], .func (.func 77) #[] #[], .func (.func 78) #[] #[], .func (.func 70) #[] #[], .func (.func 87) #[] #[], .func (.func 88) #[] #[], .func (.func 89) #[] #[], .func (.func 90) #[] #[]] 3 rfl rfl
  have HK26 := Lib.hid hk26
  clear hk26
  go_wp2_with fail
  go_ret
  exact ⟨_, _, rfl, HK26.out⟩
end Go.Proofs.Ytaielcokfpodaaa
