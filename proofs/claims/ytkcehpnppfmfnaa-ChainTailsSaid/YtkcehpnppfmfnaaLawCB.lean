/-
  ChainAhead: the walk of the statement's own text. Conditions: none.
-/
import Derived.Test.YtkcehpnppfmfnaaLawCA
namespace Go.Proofs.Ytkcehpnppfmfnaa
open Go.RowKit

/-- The configuration of a slot up to Alpha behind the common directories. -/
def wantF (first : Int) (C : List Int) (slot : Int) : Int := if slot ≤ 3 then first else C.getD (slot - 3 - 1).toNat 0

theorem at_want (first : Int) (C A : List Int) (slot : Int) (h1 : 1 ≤ slot) (h2 : slot ≤ (C.length : Int) + 3) :
    atB 0 (first :: (C ++ A)) slot = true ∧ atS 0 (first :: (C ++ A)) slot = wantF first C slot := by
  have e1 : atB 0 (first :: (C ++ A)) slot = true := by
    unfold atB bh
    refine decide_eq_true ?_
    simp only [List.length_cons, List.length_append]
    split <;> omega
  refine ⟨e1, ?_⟩
  unfold atS
  rw [if_pos e1]
  unfold wantF bh
  split
  · simp
  · rename_i h
    obtain ⟨j, hj⟩ : ∃ j : Nat, slot - 3 = ((j + 1 : Nat) : Int) := ⟨(slot - 4).toNat, by omega⟩
    have e2 : (slot - 3 - ((0 : Nat) : Int)).toNat = j + 1 := by omega
    have e3 : (slot - 3 - 1).toNat = j := by omega
    rw [e2, e3]
    have hjC : j < C.length := by omega
    simp [List.getD, List.getElem?_append_left hjC]

theorem at_far (first : Int) (M : List Int) : atB 0 (first :: M) ((0 : Int) + ((first :: M).length : Int) - 1 + 3 + 1) = false := by
  unfold atB bh
  refine decide_eq_false ?_
  simp only [List.length_cons]
  split <;> omega

theorem chnOk_of_dirs {first : Int} {M : List Int} (h : dirsB (first :: M) = true) (hl : M.length ≤ 1000) : ChnOk 0 (first :: M) := by
  refine ⟨by simp, by simp; omega, fun x hx => dirB_true ?_⟩
  exact List.all_eq_true.1 h x hx

/-- Some pointer, and nothing that was there has changed. -/
theorem pushed_some (first : Int) (v : Value) (n : Nat) (M : List Int) (w : World) (G : Nat → Prop) (h0 : 0 ≤ first) (h1 : first ≤ 255) (hM : M.length = n) (hb : ∀ x ∈ M, 0 ≤ x ∧ x ≤ 255) (hl : n ≤ 200) (hs : Sl w G 1 v n (M.map (Value.int .u8))) :
    Calls Try.prog 9 #[.int .u8 first, v] w fun e w' => ∃ q, e = .returned (.pointer q) ∧ Upd (fun _ => False) w w' ∧ (q = none ∨ dirsB (first :: M) = true ∧ ChnNew w (.pointer q) 0 (first :: M) w') :=
  (pushed_any first v n M w G h0 h1 hM hb hl hs).mono fun e w' h => by
    rcases h with ⟨_, rfl, hu⟩ | ⟨hd, p, rfl, hc⟩
    · exact ⟨none, rfl, hu, .inl rfl⟩
    · obtain ⟨hu, F, hF, hC⟩ := hc
      obtain ⟨b, rfl⟩ := hC.ptr
      exact ⟨some ⟨b, 0, none⟩, rfl, hu, .inr ⟨hd, hu, F, hF, hC⟩⟩

set_option maxRecDepth 100000 in
set_option maxHeartbeats 8000000 in
theorem chainAhead_walk (first : Int) (a1 : Option Addr) (n1 c1 : Nat) (z1 : List Int) (a2 : Option Addr) (n2 c2 : Nat) (z2 : List Int) (a3 : Option Addr) (n3 c3 : Nat) (z3 : List Int) (w : World)
    (h0 : (Lit.int .u8 first).wf = true) (i1 : IsRow .u8 w a1 n1 c1 z1) (i2 : IsRow .u8 w a2 n2 c2 z2) (i3 : IsRow .u8 w a3 n3 c3 z3) :
    Calls Try.prog 3 #[.int .u8 first, .slice a1 n1 c1, .slice a2 n2 c2, .slice a3 n3 c3] w fun e w' => e = .returned (.bool true) ∧ Below w.heap.size w w' := by
  obtain ⟨s1, l1, b1⟩ := i1.sl
  obtain ⟨s2, l2, b2⟩ := i2.sl
  obtain ⟨s3, l3, b3⟩ := i3.sl
  have m1 : c1 ≤ maxLen := by obtain ⟨_, _, _, e, _, hm, _⟩ := s1; cases e; exact hm
  have m2 : c2 ≤ maxLen := by obtain ⟨_, _, _, e, _, hm, _⟩ := s2; cases e; exact hm
  have m3 : c3 ≤ maxLen := by obtain ⟨_, _, _, e, _, hm, _⟩ := s3; cases e; exact hm
  have k1 : n1 ≤ c1 := by obtain ⟨_, _, _, e, h, _⟩ := s1; cases e; exact h
  have k2 : n2 ≤ c2 := by obtain ⟨_, _, _, e, h, _⟩ := s2; cases e; exact h
  have k3 : n3 ≤ c3 := by obtain ⟨_, _, _, e, h, _⟩ := s3; cases e; exact h
  obtain ⟨hf0, hf1⟩ := wf_u8 h0
  generalize z1.take n1 = C at *
  generalize z2.take n2 = A at *
  generalize z3.take n3 = B at *
  clear i1 i2 i3 h0
  unfold maxLen at m1 m2 m3
  have j1 : (n1 : Int) ≤ 9223372036854775807 := by omega
  have j2 : (n2 : Int) ≤ 9223372036854775807 := by omega
  have j3 : (n3 : Int) ≤ 9223372036854775807 := by omega
  by_cases hbig : 60 < n1 ∨ 60 < n2 ∨ 60 < n3
  · clear s1 l1 b1 s2 l2 b2 s3 l3 b3
    by_cases h1 : 60 < n1
    · clear hbig
      go_enter Try.func3, Try.ntmps3
      go_wp2_with fail
      refine (wakes_true _).mono ?_
      rintro e w1 ⟨rfl, hu⟩
      go_wp2_with fail
      go_ret
      exact ⟨rfl, hu.below⟩
    · by_cases h2 : 60 < n2
      · clear hbig
        go_enter Try.func3, Try.ntmps3
        go_wp2_with fail
        refine (wakes_true _).mono ?_
        rintro e w1 ⟨rfl, hu⟩
        go_wp2_with fail
        go_ret
        exact ⟨rfl, hu.below⟩
      · have h3 : 60 < n3 := by omega
        clear hbig
        go_enter Try.func3, Try.ntmps3
        go_wp2_with fail
        refine (wakes_true _).mono ?_
        rintro e w1 ⟨rfl, hu⟩
        go_wp2_with fail
        go_ret
        exact ⟨rfl, hu.below⟩
  · have h1 : n1 ≤ 60 := by omega
    have h2 : n2 ≤ 60 := by omega
    have h3 : n3 ≤ 60 := by omega
    obtain ⟨i0, hi0, hz0, hz1, hz2⟩ := info_parts infoU8
    have oC := ones_one .u8 C
    have oA := ones_one .u8 A
    have oB := ones_one .u8 B
    have S1 := Lib.hid s1
    have S2 := Lib.hid s2
    have S3 := Lib.hid s3
    have L1 := Lib.hid l1
    have L2 := Lib.hid l2
    have L3 := Lib.hid l3
    have B1 := Lib.hid b1
    have B2 := Lib.hid b2
    have B3 := Lib.hid b3
    have g1 : decide ((60 : Int) < (n1 : Int)) = false := decide_eq_false (by omega)
    have g2 : decide ((60 : Int) < (n2 : Int)) = false := decide_eq_false (by omega)
    have g3 : decide ((60 : Int) < (n3 : Int)) = false := decide_eq_false (by omega)
    clear hbig s1 s2 s3 l1 l2 l3 b1 b2 b3
    go_enter Try.func3, Try.ntmps3
    go_wp2_with (first
      | (at_builtin
         refine wpList_append_sl _ rfl (.const (.slice none 0 0)) (.tmp 34) _ rfl 5 i0 (.int .u8 0) 1 1 Try.underlying22 hi0 hz0 hz1 hz2 rfl (by omega) (.slice none 0 0) 0 [] rfl (World.ownsRow_nil _ _ _ _) _ _ n1 (C.map (Value.int .u8)) rfl S1.out oC (by simp only [maxLen]; omega) (by omega) ?_
         intro v1 w1 hown1 hg1 hat1
         obtain ⟨A1, cc1, rfl, hn1, hc1⟩ := own_shape hown1
         have HO1 := Lib.hid hown1
         have HG1 := Lib.hid hg1
         have HA1 := Lib.hid hat1
         clear hown1 hg1 hat1)
      | (at_builtin
         refine wpList_append_sl _ rfl (.tmp 35) (.tmp 36) _ rfl 5 i0 (.int .u8 0) 1 1 Try.underlying22 hi0 hz0 hz1 hz2 rfl (by omega) (.slice A1 (0 + n1) cc1) (0 + n1) ([] ++ C.map (Value.int .u8)) (by simp only [Nat.zero_add]; rfl) HO1.out _ _ n2 (A.map (Value.int .u8)) rfl (S2.out.keep HG1.out.size (fun k hk _ => HG1.out.block k hk (by simp [Value.ownBlock]))) oA (by simp only [maxLen]; omega) (by omega) ?_
         intro v2 w2 hown2 hg2 hat2))
    have hu2 : Upd (fun _ => False) w w2 := ((Upd.refl _ _).grown HG1.out (fun k hk => by simp [Value.ownBlock] at hk)).grown hg2 (fun k hk => by
      rcases HA1.out with h | h
      · rw [h] at hk; simp [Value.ownBlock] at hk
      · rw [h] at hk; right; simp at hk; omega)
    have hs2 := Sl.own hown2
    have HP := Lib.hid (pushed_some first v2 (0 + n1 + n2) (C ++ A) w2 _ hf0 hf1 (by rw [List.length_append, L1.out, L2.out]; omega) (fun x hx => by
      rcases List.mem_append.1 hx with h | h
      · exact wf_u8 (B1.out x h)
      · exact wf_u8 (B2.out x h)) (by omega) (by rw [List.map_append]; simpa using hs2))
    have HU2 := Lib.hid hu2
    clear hown2 hg2 hat2 hu2 hs2
    refine HP.out.mono ?_
    rintro e w3 ⟨q, rfl, hu3, hq⟩
    have HU3 := Lib.hid (HU2.out.trans hu3 (fun _ _ h => h))
    have HQ := Lib.hid hq
    clear hu3 hq HU2 HP HO1 HG1 HA1
    go_wp2_with (first
      | (at_builtin
         refine wpList_append_sl _ rfl (.const (.slice none 0 0)) (.tmp 40) _ rfl 5 i0 (.int .u8 0) 1 1 Try.underlying22 hi0 hz0 hz1 hz2 rfl (by omega) (.slice none 0 0) 0 [] rfl (World.ownsRow_nil _ _ _ _) _ _ n1 (C.map (Value.int .u8)) rfl (S1.out.below HU3.out.below (fun _ h => h)) oC (by simp only [maxLen]; omega) (by omega) ?_
         intro v4 w4 hown4 hg4 hat4
         obtain ⟨A4, cc4, rfl, hn4, hc4⟩ := own_shape hown4
         have HO4 := Lib.hid hown4
         have HG4 := Lib.hid hg4
         have HA4 := Lib.hid hat4
         clear hown4 hg4 hat4)
      | (at_builtin
         refine wpList_append_sl _ rfl (.tmp 41) (.tmp 42) _ rfl 5 i0 (.int .u8 0) 1 1 Try.underlying22 hi0 hz0 hz1 hz2 rfl (by omega) (.slice A4 (0 + n1) cc4) (0 + n1) ([] ++ C.map (Value.int .u8)) (by simp only [Nat.zero_add]; rfl) HO4.out _ _ n3 (B.map (Value.int .u8)) rfl ((S3.out.below HU3.out.below (fun _ h => h)).keep HG4.out.size (fun k hk _ => HG4.out.block k hk (by simp [Value.ownBlock]))) oB (by simp only [maxLen]; omega) (by omega) ?_
         intro v5 w5 hown5 hg5 hat5))
    have hu5 : Upd (fun _ => False) w3 w5 := ((Upd.refl _ _).grown HG4.out (fun k hk => by simp [Value.ownBlock] at hk)).grown hg5 (fun k hk => by
      rcases HA4.out with h | h
      · rw [h] at hk; simp [Value.ownBlock] at hk
      · rw [h] at hk; right; simp at hk; omega)
    have hs5 := Sl.own hown5
    have HP := Lib.hid (pushed_some first v5 (0 + n1 + n3) (C ++ B) w5 _ hf0 hf1 (by rw [List.length_append, L1.out, L3.out]; omega) (fun x hx => by
      rcases List.mem_append.1 hx with h | h
      · exact wf_u8 (B1.out x h)
      · exact wf_u8 (B3.out x h)) (by omega) (by rw [List.map_append]; simpa using hs5))
    have HU5 := Lib.hid hu5
    clear hown5 hg5 hat5 hu5 hs5
    refine HP.out.mono ?_
    rintro e w6 ⟨r, rfl, hu6, hr⟩
    have HU6 := Lib.hid (HU5.out.trans hu6 (fun _ _ h => h))
    have HR := Lib.hid hr
    have HUA := Lib.hid (HU3.out.trans HU6.out (fun _ _ h => h))
    clear hu6 hr HU5 HP HO4 HG4 HA4
    rcases HQ.out with rfl | ⟨hdx, hux, Fx, hFx, hCx⟩
    · go_wp2_with fail
      refine (wakes_true _).mono ?_
      rintro e w7 ⟨rfl, hu⟩
      go_wp2_with fail
      go_ret
      exact ⟨rfl, (HUA.out.trans hu (fun _ _ h => h)).below⟩
    · obtain ⟨bx, ebx⟩ := hCx.ptr
      cases ebx
      rcases HR.out with rfl | ⟨hdy, huy, Fy, hFy, hCy⟩
      · clear hdx hux hFx hCx
        go_wp2_with fail
        refine (wakes_true _).mono ?_
        rintro e w7 ⟨rfl, hu⟩
        go_wp2_with fail
        go_ret
        exact ⟨rfl, (HUA.out.trans hu (fun _ _ h => h)).below⟩
      · obtain ⟨by_, eby⟩ := hCy.ptr
        cases eby
        have HX := Lib.hid (hCx.upd HU6.out (fun _ _ h => h))
        have HY := Lib.hid hCy
        have HKX := Lib.hid (chnOk_of_dirs hdx (by rw [List.length_append, L1.out, L2.out]; omega))
        have HKY := Lib.hid (chnOk_of_dirs hdy (by rw [List.length_append, L1.out, L3.out]; omega))
        clear hdx hux hFx hCx hdy huy hFy hCy HQ HR
        go_wp2_with fail
        clear g1 g2 g3
        go_loopw [11] (fun s wr => ∃ k q : Nat, 1 ≤ k ∧ k ≤ n1 + 4 ∧ s = .int .u64 (k : Int) ∧ wr = w6.drewN q) (fun s _ => n1 + 4 - (intOf s).toNat)
        case atStart => exact ⟨1, 0, by omega, by omega, rfl, rfl⟩
        case round =>
          obtain ⟨k, qd, hk1, hk2, rfl, rfl⟩ := hrel
          by_cases hlt : k ≤ n1 + 3
          · obtain ⟨tx, ex⟩ := at_want first C A (k : Int) (by omega) (by rw [L1.out]; omega)
            obtain ⟨ty, ey⟩ := at_want first C B (k : Int) (by omega) (by rw [L1.out]; omega)
            have hx := fun nq => at_any (HX.out.drewN nq) HKX.out (k : Int) (by omega) (by omega)
            have hy := fun nq => at_any (HY.out.drewN nq) HKY.out (k : Int) (by omega) (by omega)
            rw [tx, ex] at hx
            rw [ty, ey] at hy
            have hk3 : (k : Int) ≤ (n1 : Int) + 3 := by omega
            by_cases hs : k ≤ 3
            · have hw : wantF first C (k : Int) = first := by unfold wantF; rw [if_pos (by omega)]
              rw [hw] at hx hy
              have HAX := Lib.hid hx
              have HAY := Lib.hid hy
              have hs3 : (k : Int) ≤ 3 := by omega
              clear hx hy hw tx ex ty ey
              go_wp2_with fail
              refine (HAX.out _).mono ?_
              rintro e w' ⟨rfl, nx, rfl⟩
              go_wp2_with fail
              refine (HAY.out _).mono ?_
              rintro e w' ⟨rfl, ny, rfl⟩
              go_wp2_with fail
              go_roundw
              case rel => exact ⟨k + 1, _, by omega, by omega, by go_num, rfl⟩
              case measure => simp [intOf]; omega
            · obtain ⟨j, rfl⟩ : ∃ j, k = j + 4 := ⟨k - 4, by omega⟩
              have hjC : j < C.length := by rw [L1.out]; omega
              have hw : wantF first C ((j + 4 : Nat) : Int) = C[j] := by
                unfold wantF
                rw [if_neg (by omega), show (((j + 4 : Nat) : Int) - 3 - 1).toNat = j from by omega]
                simp [List.getD, List.getElem?_eq_getElem hjC]
              rw [hw] at hx hy
              obtain ⟨bb, oo, cc, e, hbl, _, hcell⟩ := S1.out.at_ (show j < n1 by omega)
              simp only [Value.slice.injEq, true_and] at e
              obtain ⟨rfl, rfl⟩ := e
              have hc6 : w6.cell? ⟨bb, oo + j, none⟩ = some (.int .u8 C[j]) := by
                rw [HUA.out.cell (p := ⟨bb, oo + j, none⟩) hbl id, hcell, List.getElem?_map, List.getElem?_eq_getElem hjC]; rfl
              have HAX := Lib.hid hx
              have HAY := Lib.hid hy
              clear hx hy hw tx ex ty ey hcell
              generalize C[j] = x at *
              have hj1 : (j : Int) < (n1 : Int) := by omega
              go_wp2_with fail
              refine (HAX.out _).mono ?_
              rintro e w' ⟨rfl, nx, rfl⟩
              go_wp2_with fail
              refine (HAY.out _).mono ?_
              rintro e w' ⟨rfl, ny, rfl⟩
              go_wp2_with fail
              go_roundw
              case rel => exact ⟨j + 4 + 1, _, by omega, by omega, by go_num, rfl⟩
              case measure => simp [intOf]; omega
          · have hke : k = n1 + 4 := by omega
            subst hke
            have hf := at_far first (C ++ A)
            have hlen : (first :: (C ++ A)).length = n1 + n2 + 1 := by simp [L1.out, L2.out]
            rw [hlen] at hf
            have hx := fun nq => at_any (HX.out.drewN nq) HKX.out ((0 : Int) + ((n1 + n2 + 1 : Nat) : Int) - 1 + 3 + 1) (by omega) (by omega)
            have hxs : atS 0 (first :: (C ++ A)) ((0 : Int) + ((n1 + n2 + 1 : Nat) : Int) - 1 + 3 + 1) = 0 := by unfold atS; rw [hf]; rfl
            rw [hf, hxs] at hx
            have ht := fun nq => top_any (HX.out.drewN nq) HKX.out
            rw [hlen] at ht
            have hx' := fun nq (s : Int) (hs : s = (0 : Int) + ((n1 + n2 + 1 : Nat) : Int) - 1 + 3 + 1) => (by rw [hs]; exact hx nq : Calls Try.prog 10 #[.pointer (some ⟨bx, 0, none⟩), .int .u64 s] (w6.drewN nq) fun e w' => e = .returned (.tuple #[.int .u8 0, .bool false]) ∧ ∃ n, w' = (w6.drewN nq).drewN n)
            have HAX := Lib.hid hx'
            have HT := Lib.hid ht
            clear hx hx' ht hf hxs hlen
            go_wp2_with fail
            refine (HT.out _).mono ?_
            rintro e w' ⟨rfl, nx, rfl⟩
            go_wp2_with fail
            refine (HAX.out _ _ (by omega)).mono ?_
            rintro e w' ⟨rfl, ny, rfl⟩
            go_wp2_with fail
            refine (wakes_true _).mono ?_
            rintro e w7 ⟨rfl, hu⟩
            go_wp2_with fail
            go_ret
            exact ⟨rfl, ((HUA.out.drewN _).trans hu (fun _ _ h => h)).below⟩
end Go.Proofs.Ytkcehpnppfmfnaa
