/-
  The statements' own helpers of layer 15: wakes answers true, pushed is the chain of these directories. Conditions: lengths of at most 130.
-/
import Derived.Test.YtkcehpnppfmfnaaChainC
import Derived.Test.YtkcehpnppfmfnaaChainD
namespace Go.Proofs.Ytkcehpnppfmfnaa
open Go.RowKit

theorem Chn.ptr {w : World} {F : Nat → Prop} {p : Value} {low : Nat} {L : List Int} (h : Chn w F p low L) : ∃ b, p = .pointer (some ⟨b, 0, none⟩) := by
  obtain ⟨b, v, rfl, _⟩ := h
  exact ⟨b, rfl⟩
theorem Chn.drewN {w : World} {F : Nat → Prop} {p : Value} {low : Nat} {L : List Int} (h : Chn w F p low L) (n : Nat) : Chn (w.drewN n) F p low L := h

theorem tail3 : strOfNums (([7, 6, 3] : List Int).drop (([7, 6, 3] : List Int).length - 3)) = ⟨#[7, 6, 3]⟩ := rfl
theorem ok1 : ChnOk 0 [7] := by simp [ChnOk]
theorem ok2 : ChnOk 0 [7, 6] := by simp [ChnOk]
theorem ok3 : ChnOk 0 [7, 6, 3] := by simp [ChnOk]

/-- What the laws' walks carry of one chain and of what the call has changed so far: nothing that was there at the start. -/
theorem upd_none_of_new {w w1 w2 : World} {F : Nat → Prop} (h : Upd (fun _ => False) w w1) (hF : ∀ k, F k → w.heap.size ≤ k) (h2 : Upd F w1 w2) : Upd (fun _ => False) w w2 :=
  h.trans h2 (fun i hi hf => by have := hF i hf; omega)

set_option maxRecDepth 100000 in
set_option maxHeartbeats 4000000 in
theorem wakes_true (w : World) : Calls Try.prog 8 #[] w fun e w' => e = .returned (.bool true) ∧ Upd (fun _ => False) w w' := by
  go_enter Try.func8, Try.ntmps8
  go_wp2_with fail
  refine (new_ok 7 w (by omega) (by omega) (by decide)).mono ?_
  rintro e w1 ⟨p, rfl, hu1, F1, hF1, hc1⟩
  obtain ⟨b, rfl⟩ := hc1.ptr
  have HU1 := Lib.hid hu1
  have HC1 := Lib.hid hc1
  have HF1 := Lib.hid hF1
  clear hu1 hc1 hF1
  go_wp2_with fail
  refine (push_ok HC1.out ok1 6 (by omega) (by omega) (by decide) (by simp) (by simp)).mono ?_
  rintro e w2 ⟨rfl, hu2, F2, hF2, hc2⟩
  have HU2 := Lib.hid hu2
  have HC2 := Lib.hid hc2
  have HF2 := Lib.hid hF2
  clear hu2 hc2 hF2
  go_wp2_with fail
  refine (push_ok HC2.out ok2 3 (by omega) (by omega) (by decide) (by simp) (by simp)).mono ?_
  rintro e w3 ⟨rfl, hu3, F3, hF3, hc3⟩
  have HU3 := Lib.hid hu3
  have HC3 : Hid (Chn w3 F3 (.pointer (some ⟨b, 0, none⟩)) 0 [7, 6, 3]) := hc3
  clear hu3 hc3 hF3
  go_wp2_with fail
  refine (at_any HC3.out ok3 3 (by omega) (by omega)).mono ?_
  rw [show atS 0 [7, 6, 3] 3 = 7 from by decide, show atB 0 [7, 6, 3] 3 = true from by decide]
  rintro e w' ⟨rfl, n1, rfl⟩
  go_wp2_with fail
  refine (at_any (HC3.out.drewN _) ok3 5 (by omega) (by omega)).mono ?_
  rw [show atS 0 [7, 6, 3] 5 = 3 from by decide, show atB 0 [7, 6, 3] 5 = true from by decide]
  rintro e w' ⟨rfl, n2, rfl⟩
  go_wp2_with fail
  refine (at_any (HC3.out.drewN _) ok3 6 (by omega) (by omega)).mono ?_
  rw [show atS 0 [7, 6, 3] 6 = 0 from by decide, show atB 0 [7, 6, 3] 6 = false from by decide]
  rintro e w' ⟨rfl, n3, rfl⟩
  go_wp2_with fail
  refine (top_any (HC3.out.drewN _) ok3).mono ?_
  rintro e w' ⟨rfl, n4, rfl⟩
  go_wp2_with fail
  refine (tail_any (HC3.out.drewN _) ok3 (by simp)).mono ?_
  rw [tail3]
  rintro e w4 ⟨rfl, hu4⟩
  have HU4 := Lib.hid hu4
  have HC4 := Lib.hid ((HC3.out.drewN _).upd hu4 (fun _ _ h => h))
  clear hu4
  go_wp2_with fail
  refine (span_any HC4.out ok3 4 5 (by omega) (by omega) (by omega) (by omega)).mono ?_
  rw [show spanF (knL 0 [7, 6, 3] 4 5) = 7 from by decide]
  rintro e w5 ⟨rfl, hu5⟩
  have HU5 := Lib.hid hu5
  clear hu5
  go_wp2_with fail
  go_ret
  refine ⟨rfl, ?_⟩
  have a1 := HU1.out
  have hF1 : ∀ k, F1 k → w.heap.size ≤ k := fun k hk => (HF1.out k hk).1
  have a2 := upd_none_of_new a1 hF1 HU2.out
  have a3 := upd_none_of_new a2 (fun k hk => by rcases HF2.out k hk with h | h; exact hF1 k h; exact Nat.le_trans a1.size h) HU3.out
  exact ((a3.drewN _).trans HU4.out (fun _ _ h => h)).trans HU5.out (fun _ _ h => h)

def pushedPre (w : World) (first : Int) (M : List Int) (p : Value) (k : Nat) (e : Value) (wr : World) : Prop :=
  Upd (fun _ => False) w wr ∧ ((e = .int .i64 0 ∧ (∀ x ∈ M.take k, dirB x = true) ∧ ∃ F, (∀ q, F q → w.heap.size ≤ q) ∧ Chn wr F p 0 (first :: M.take k)) ∨ (e = .int .i64 2 ∧ dirsB (first :: M) = false))

theorem dirsB_cons {x : Int} {M : List Int} : dirsB (x :: M) = (dirB x && dirsB M) := rfl

set_option maxHeartbeats 4000000 in
theorem pushed_any (first : Int) (v : Value) (n : Nat) (M : List Int) (w : World) (G : Nat → Prop) (h0 : 0 ≤ first) (h1 : first ≤ 255) (hM : M.length = n) (hb : ∀ x ∈ M, 0 ≤ x ∧ x ≤ 255) (hl : n ≤ 200) (hs : Sl w G 1 v n (M.map (Value.int .u8))) :
    Calls Try.prog 9 #[.int .u8 first, v] w fun e w' =>
      (dirsB (first :: M) = false ∧ e = .returned (.pointer none) ∧ Upd (fun _ => False) w w') ∨
      (dirsB (first :: M) = true ∧ ∃ p, e = .returned p ∧ ChnNew w p 0 (first :: M) w') := by
  by_cases hd : dirB first = true
  · obtain ⟨A, c, rfl, hnc, hcm⟩ := hs.shape
    have HS := Lib.hid hs
    have HM := Lib.hid hM
    have HB := Lib.hid hb
    have hl' : (n : Int) ≤ 200 := by omega
    have HN := Lib.hid (new_ok first w h0 h1 hd)
    have HD := Lib.hid hd
    have hf := dirB_true hd
    unfold maxLen at hcm
    clear hs hM hb hd
    go_enter Try.func9, Try.ntmps9
    go_wp2_with fail
    refine HN.out.mono ?_
    rintro e w1 ⟨p, rfl, hu1, F1, hF1, hc1⟩
    obtain ⟨b, rfl⟩ := hc1.ptr
    have HU1 := Lib.hid hu1
    have HC1 := Lib.hid hc1
    have HF1 := Lib.hid hF1
    clear hu1 hc1 hF1
    go_wp2_with fail
    go_loopw [6, 7] (fun e i wr => ∃ k : Nat, k ≤ n ∧ i = .int .i64 k ∧ pushedPre w first M (.pointer (some ⟨b, 0, none⟩)) k e wr) (fun _ i _ => n - (intOf i).toNat)
    case atStart => exact ⟨0, Nat.zero_le _, rfl, HU1.out, .inl ⟨rfl, by simp, F1, fun q hq => (HF1.out q hq).1, by simpa using HC1.out⟩⟩
    case round =>
      obtain ⟨k, hk, rfl, hu, hc⟩ := hrel
      rcases hc with ⟨rfl, hall, F, hF, hC⟩ | ⟨rfl, hbad⟩
      · by_cases hlt : k < n
        · have hkM : k < M.length := by rw [HM.out]; exact hlt
          obtain ⟨bb, oo, cc, e, hGb, hbl, hcell⟩ := HS.out.at_ hlt
          simp only [Value.slice.injEq, true_and] at e
          obtain ⟨rfl, rfl⟩ := e
          rw [List.getElem?_map, List.getElem?_eq_getElem hkM, Option.map_some] at hcell
          have hcr : wr.cell? ⟨bb, oo + k, none⟩ = some (.int .u8 M[k]) := (hu.cell (p := ⟨bb, oo + k, none⟩) hbl id).trans hcell
          have hxb := HB.out M[k] (List.getElem_mem hkM)
          have hlk : (first :: M.take k).length = k + 1 := by simp; omega
          have hok : ChnOk 0 (first :: M.take k) := ⟨by simp, by rw [hlk]; omega, fun x hx => by
            rcases List.mem_cons.1 hx with h | h
            · rw [h]; exact hf
            · exact dirB_true (hall x h)⟩
          have HU := Lib.hid hu
          have HC := Lib.hid hC
          have HF := Lib.hid hF
          have HA := Lib.hid hall
          clear hu hC hF hall hcell
          by_cases hdx : dirB M[k] = true
          · have HP := Lib.hid (push_ok HC.out hok M[k] hxb.1 hxb.2 hdx (by rw [hlk]; omega) (by rw [hlk]; omega))
            have HY := Lib.hid (take_snoc_all hkM hdx HA.out)
            have HT : Hid (first :: M.take k ++ [M[k]] = first :: M.take (k + 1)) := by rw [List.take_succ_eq_append_getElem hkM]; rfl
            generalize M[k] = x at *
            clear hlk hok hdx
            go_wp2_with fail
            refine HP.out.mono ?_
            rintro e w2 ⟨rfl, hu2, F2, hF2, hc2⟩
            rw [HT.out] at hc2
            have HU2 := Lib.hid hu2
            have HC2 := Lib.hid hc2
            have HF2 := Lib.hid hF2
            clear hu2 hc2 hF2
            go_wp2_with fail
            go_roundw
            case rel =>
              refine ⟨k + 1, by omega, by go_num, upd_none_of_new HU.out HF.out HU2.out, .inl ⟨rfl, HY.out, F2, fun q hq => ?_, HC2.out⟩⟩
              rcases HF2.out q hq with h | h
              · exact HF.out q h
              · exact Nat.le_trans HU.out.size h
            case measure => simp [intOf]; omega
          · have hdx' : dirB M[k] = false := by simpa using hdx
            have HP := Lib.hid (push_bad b M[k] wr hxb.1 hxb.2 hdx')
            have HY := Lib.hid (show dirsB (first :: M) = false by rw [dirsB_cons, dirsB_no hkM hdx']; simp)
            generalize M[k] = x at *
            clear hlk hok hdx hdx'
            go_wp2_with fail
            refine HP.out.mono ?_
            rintro e w2 ⟨rfl, rfl⟩
            go_wp2_with fail
            go_roundw
            case rel => exact ⟨k + 1, by omega, by go_num, HU.out, .inr ⟨rfl, HY.out⟩⟩
            case measure => simp [intOf]; omega
        · have hkn : k = n := by omega
          subst hkn
          rw [List.take_of_length_le (by rw [HM.out]; exact Nat.le_refl _)] at hall hC
          have HU := Lib.hid hu
          have HC := Lib.hid hC
          have HF := Lib.hid hF
          have HA : Hid (dirsB (first :: M) = true) := by rw [dirsB_cons, HD.out, dirsB_yes hall]; rfl
          clear hu hC hF hall
          go_wp2_with fail
          go_ret
          obtain ⟨F', hF', hC'⟩ := HC.out.lt
          exact .inr ⟨HA.out, _, rfl, HU.out, F', fun q hq => ⟨HF.out q (hF' q hq).1, (hF' q hq).2⟩, hC'⟩
      · have HU := Lib.hid hu
        have HBAD := Lib.hid hbad
        clear hu hbad
        by_cases hlt : k < n
        all_goals
          go_wp2_with fail
          go_ret
          exact .inl ⟨HBAD.out, rfl, HU.out⟩
  · have hd' : dirB first = false := by simpa using hd
    have HY : Hid (dirsB (first :: M) = false) := by rw [dirsB_cons, hd']; rfl
    have HN := Lib.hid (new_bad first w h0 h1 hd')
    obtain ⟨A, c, rfl, hnc, hcm⟩ := hs.shape
    have hl' : (n : Int) ≤ 200 := by omega
    clear hd hd' hs hM hb
    by_cases hn0 : n = 0
    · subst hn0
      go_enter Try.func9, Try.ntmps9
      go_wp2_with fail
      refine HN.out.mono ?_
      rintro e w1 ⟨rfl, rfl⟩
      go_wp2_with fail
      refine wp_loop_rounds 1 ?_
      rw [rounds_succ]
      go_wp2_with fail
      go_ret
      exact .inl ⟨HY.out, rfl, Upd.refl _ _⟩
    · have hpos : 0 < n := by omega
      go_enter Try.func9, Try.ntmps9
      go_wp2_with fail
      refine HN.out.mono ?_
      rintro e w1 ⟨rfl, rfl⟩
      go_wp2_with fail
      refine wp_loop_rounds 1 ?_
      rw [rounds_succ]
      go_wp2_with fail
      go_ret
      exact .inl ⟨HY.out, rfl, Upd.refl _ _⟩

end Go.Proofs.Ytkcehpnppfmfnaa
