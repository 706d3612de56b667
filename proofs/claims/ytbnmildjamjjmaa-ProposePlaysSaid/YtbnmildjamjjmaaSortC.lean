/-
  The library's sort of uint64, its walks: partitionEqualOrdered. Conditions: at most 100000 numbers.
-/
import Derived.Test.YtbnmildjamjjmaaSortA
import Derived.Deep.DeepCutAuto
namespace Go.Proofs.Ytbnmildjamjjmaa
open Go.RowKit
open Go.Sort (swp ltInt size_swp)

theorem su_go (p : Int → Bool) (d : Array Int) (j i : Nat) (h : i ≤ j) (hp : p d[i]! = true) : Sort.scanUp p d j i = Sort.scanUp p d j (i + 1) := by
  rw [Sort.scanUp, if_pos (by rw [hp, decide_eq_true h]; rfl)]
theorem su_stop (p : Int → Bool) (d : Array Int) (j i : Nat) (h : ¬ i ≤ j ∨ p d[i]! = false) : Sort.scanUp p d j i = i := by
  rw [Sort.scanUp, if_neg]
  rcases h with h | h
  · rw [decide_eq_false h]; simp
  · rw [h]; simp
theorem sdn_go (p : Int → Bool) (d : Array Int) (i j : Nat) (h : i ≤ j) (h0 : 0 < j) (hp : p d[j]! = true) : Sort.scanDown p d i j = Sort.scanDown p d i (j - 1) := by
  obtain ⟨k, rfl⟩ : ∃ k, j = k + 1 := ⟨j - 1, by omega⟩
  rw [Sort.scanDown, if_pos (by rw [hp, decide_eq_true h]; rfl)]
  rfl
theorem sdn_stop (p : Int → Bool) (d : Array Int) (i j : Nat) (h : ¬ i ≤ j ∨ p d[j]! = false) : Sort.scanDown p d i j = j := by
  cases j with
  | zero => rfl
  | succ k =>
    rw [Sort.scanDown, if_neg]
    rcases h with h | h
    · rw [decide_eq_false h]; simp
    · rw [h]; simp
theorem pe_stop (a i j i2 j2 : Nat) (d : Array Int) (hi : Sort.scanUp (fun x => !ltInt d[a]! x) d j i = i2) (hj : Sort.scanDown (fun x => ltInt d[a]! x) d i2 j = j2) (h : j2 < i2) : Sort.partEqLoop ltInt a i j d = (i2, d) := by
  rw [Sort.partEqLoop]
  simp only [hi, hj]
  rw [if_pos h]
theorem pe_go (a i j i2 j2 : Nat) (d : Array Int) (hi : Sort.scanUp (fun x => !ltInt d[a]! x) d j i = i2) (hj : Sort.scanDown (fun x => ltInt d[a]! x) d i2 j = j2) (h : ¬ j2 < i2) (h1 : i ≤ i2) (h2 : j2 ≤ j) (h3 : 0 < i2) : Sort.partEqLoop ltInt a i j d = Sort.partEqLoop ltInt a (i2 + 1) (j2 - 1) (swp d i2 j2) := by
  rw [Sort.partEqLoop]
  simp only [hi, hj]
  rw [if_neg h, dif_pos (by omega)]

set_option maxRecDepth 100000 in
set_option maxHeartbeats 8000000 in
theorem partEq_any {w0 w : World} {g off : Nat} {ty : TypeId} {N : Nat} {d : Array Int} (h : Ar w0 w g off ty N d) (cap a b pivot : Nat) (h1 : a ≤ pivot) (h2 : pivot < b) (hb : b ≤ d.size) (hsz : d.size ≤ 100000) :
    Calls Try.prog 50 #[.slice (some ⟨g, off, none⟩) d.size cap, .int .i64 a, .int .i64 b, .int .i64 pivot] w fun e w' => e = .returned (.int .i64 ((Sort.partitionEqual ltInt d a b pivot).1 : Nat)) ∧ Ar w0 w' g off ty N (Sort.partitionEqual ltInt d a b pivot).2 := by
  obtain ⟨n, hn⟩ : ∃ n, d.size = n := ⟨_, rfl⟩
  obtain ⟨G, hG⟩ : ∃ G : Nat → Int, ∀ t, G t = d[t]! := ⟨fun t => d[t]!, fun _ => rfl⟩
  have hcw : ∀ t, t < n → w.cell? ⟨g, off + t, none⟩ = some (.int .u64 (G t)) := fun t ht => by rw [hG]; exact h.cells t (by rw [hn]; exact ht)
  have hfw : ∀ t, t < n → w.frozen? ⟨g, off + t, none⟩ = false := fun t _ => h.free t
  rw [hn] at hb hsz ⊢
  obtain ⟨v', hv'⟩ := cell?_setCell_some (w := w) (p := ⟨g, off + a, none⟩) (x := .int .u64 (G pivot)) (q := ⟨g, off + pivot, none⟩) (v := .int .u64 (G pivot)) (hcw _ (by omega))
  have hsw : Ar w0 ((((w.setCell ⟨g, off + a, none⟩ (.int .u64 (G pivot))).setCell ⟨g, off + pivot, none⟩ (.int .u64 (G a))).drew)) g off ty N (swp d a pivot) := by rw [hG, hG]; exact (h.swap a pivot (by omega) (by omega)).drew
  have HSW := Lib.hid hsw
  have HZ : Hid ((swp d a pivot).size = n) := (size_swp d a pivot).trans hn
  obtain ⟨j0, hj0⟩ : ∃ j0, j0 = b - 1 := ⟨_, rfl⟩
  have HQ : Hid (Sort.partitionEqual ltInt d a b pivot = Sort.partEqLoop ltInt a (a + 1) j0 (swp d a pivot)) := by
    show _ = _
    unfold Sort.partitionEqual
    rw [hj0]
  have e1 : (b : Int) - 1 = (j0 : Int) := by omega
  have hjb : j0 < n := by omega
  have haj : a ≤ j0 := by omega
  clear h hn hG hsw hj0
  generalize swp d a pivot = d1 at *
  go_enter Try.func50, Try.ntmps50
  go_wp2_with fail
  go_region
  all_goals clear hv' hcw hfw
  go_wp2_with fail
  obtain ⟨w1, hw1⟩ : ∃ w1, w1 = ((w.setCell ⟨g, off + a, none⟩ (.int .u64 (G pivot))).setCell ⟨g, off + pivot, none⟩ (.int .u64 (G a))).drew := ⟨_, rfl⟩
  rw [← hw1] at HSW ⊢
  clear hw1
  have E1 := Lib.hid e1
  clear e1
  go_loopw [9, 10] (fun vi vj wr => ∃ (i j : Nat) (dk : Array Int), vi = .int .i64 i ∧ vj = .int .i64 j ∧ a < i ∧ i ≤ n ∧ a ≤ j ∧ j < n ∧ dk.size = n ∧ Ar w0 wr g off ty N dk ∧ Sort.partEqLoop ltInt a i j dk = Sort.partEqLoop ltInt a (a + 1) j0 d1) (fun vi vj _ => (intOf vj).toNat + 1 - (intOf vi).toNat)
  case atStart => exact ⟨a + 1, j0, d1, by go_num, rfl, by omega, by omega, haj, hjb, HZ.out, HSW.out, rfl⟩
  case round =>
    obtain ⟨i0, j1, dk, rfl, rfl, hi0, hin, haj1, hj1, hsk, hA, hO⟩ := hrel
    obtain ⟨wo, hwo⟩ : ∃ wo, wo = wr := ⟨_, rfl⟩
    rw [← hwo] at hA ⊢
    clear hwo
    obtain ⟨G, hG⟩ : ∃ G : Nat → Int, ∀ t, G t = dk[t]! := ⟨fun t => dk[t]!, fun _ => rfl⟩
    have HG := Lib.hid hG
    have HO := Lib.hid hO
    have HSK := Lib.hid hsk
    have HA := Lib.hid hA
    clear hG hO hsk hA
    go_wp2_with fail
    go_loopw [9] (fun vi wr => ∃ i : Nat, vi = .int .i64 i ∧ i0 ≤ i ∧ i ≤ n ∧ Ar w0 wr g off ty N dk ∧ Sort.scanUp (fun x => !ltInt dk[a]! x) dk j1 i = Sort.scanUp (fun x => !ltInt dk[a]! x) dk j1 i0) (fun vi _ => n - (intOf vi).toNat)
    case atStart => exact ⟨i0, rfl, Nat.le_refl _, hin, HA.out, rfl⟩
    case round =>
      obtain ⟨i, rfl, hii, hin2, hB, hU⟩ := hrel
      have hcw : ∀ t, t < n → wr.cell? ⟨g, off + t, none⟩ = some (.int .u64 (G t)) := fun t ht => by rw [HG.out]; exact hB.cells t (by rw [HSK.out]; exact ht)
      have HB := Lib.hid hB
      have HU := Lib.hid hU
      clear hB hU
      obtain ⟨t, ht⟩ : ∃ t : Bool, (decide (i ≤ j1) && !ltInt (G a) (G i)) = t := ⟨_, rfl⟩
      have HT := Lib.hid ht
      clear ht
      go_wp2_with fail
      go_cut [43] (fun v wx => v = .bool t ∧ Ar w0 wx g off ty N dk)
      case first =>
        have ht := HT.out
        by_cases hij : i ≤ j1
        · have hd : decide (i ≤ j1) = true := decide_eq_true hij
          rw [hd, Bool.true_and] at ht
          have HT2 := Lib.hid ht
          clear ht
          go_quiet (first | (go_at_call 49; refine Calls.quiet_of_same (less_u _ _ _)))
          go_wp2_with fail
          go_meet
          exact ⟨by rw [HT2.out], HB.out.drewN _⟩
        · have hd : decide (i ≤ j1) = false := decide_eq_false hij
          rw [hd, Bool.false_and] at ht
          have HT2 := Lib.hid ht
          clear ht
          go_quiet (first | (go_at_call 49; refine Calls.quiet_of_same (less_u _ _ _)))
          go_wp2_with fail
          go_meet
          exact ⟨by rw [← HT2.out], HB.out.drewN _⟩
      case rest =>
        obtain ⟨rfl, hA'⟩ := hcut
        have HA' := Lib.hid hA'
        clear hA' hcw HB
        cases t
        · have hst : Sort.scanUp (fun x => !ltInt dk[a]! x) dk j1 i0 = i := by
            rw [← HU.out]
            refine su_stop _ dk j1 i ?_
            have := HT.out
            rw [HG.out, HG.out, Bool.and_eq_false_iff] at this
            exact this.imp of_decide_eq_false id
          have HST := Lib.hid hst
          clear hst HT HU
          obtain ⟨wi, hwi⟩ : ∃ wi, wi = wc := ⟨_, rfl⟩
          rw [← hwi] at HA' ⊢
          clear hwi
          go_wp2_with fail
          go_loopw [10] (fun vj wr => ∃ j : Nat, vj = .int .i64 j ∧ j ≤ j1 ∧ a ≤ j ∧ Ar w0 wr g off ty N dk ∧ Sort.scanDown (fun x => ltInt dk[a]! x) dk i j = Sort.scanDown (fun x => ltInt dk[a]! x) dk i j1) (fun vj _ => (intOf vj).toNat)
          case atStart => exact ⟨j1, rfl, Nat.le_refl _, haj1, HA'.out, rfl⟩
          case round =>
            obtain ⟨j, rfl, hjj, haj2, hB, hU⟩ := hrel
            have hcw : ∀ t, t < n → wr.cell? ⟨g, off + t, none⟩ = some (.int .u64 (G t)) := fun t ht => by rw [HG.out]; exact hB.cells t (by rw [HSK.out]; exact ht)
            have HB := Lib.hid hB
            have HU := Lib.hid hU
            clear hB hU
            obtain ⟨t, ht⟩ : ∃ t : Bool, (decide (i ≤ j) && ltInt (G a) (G j)) = t := ⟨_, rfl⟩
            have HT := Lib.hid ht
            clear ht
            go_wp2_with fail
            go_cut [59] (fun v wx => v = .bool t ∧ Ar w0 wx g off ty N dk)
            case first =>
              have ht := HT.out
              by_cases hij : i ≤ j
              · have hd : decide (i ≤ j) = true := decide_eq_true hij
                rw [hd, Bool.true_and] at ht
                have HT2 := Lib.hid ht
                clear ht
                go_quiet (first | (go_at_call 49; refine Calls.quiet_of_same (less_u _ _ _)))
                go_wp2_with fail
                go_meet
                exact ⟨by rw [HT2.out], HB.out.drewN _⟩
              · have hd : decide (i ≤ j) = false := decide_eq_false hij
                rw [hd, Bool.false_and] at ht
                have HT2 := Lib.hid ht
                clear ht
                go_quiet (first | (go_at_call 49; refine Calls.quiet_of_same (less_u _ _ _)))
                go_wp2_with fail
                go_meet
                exact ⟨by rw [← HT2.out], HB.out.drewN _⟩
            case rest =>
              obtain ⟨rfl, hA'⟩ := hcut
              have HA2 := Lib.hid hA'
              clear hA' hcw HB
              cases t
              · have hst : Sort.scanDown (fun x => ltInt dk[a]! x) dk i j1 = j := by
                  rw [← HU.out]
                  refine sdn_stop _ dk i j ?_
                  have := HT.out
                  rw [HG.out, HG.out, Bool.and_eq_false_iff] at this
                  exact this.imp of_decide_eq_false id
                have HSD := Lib.hid hst
                clear hst HT HU
                by_cases hgt : j < i
                · have HF := Lib.hid (pe_stop a i0 j1 i j dk HST.out HSD.out hgt)
                  go_wp2_with fail
                  go_ret
                  rw [HQ.out, ← HO.out, HF.out]
                  exact ⟨rfl, HA2.out⟩
                · have HF := Lib.hid (pe_go a i0 j1 i j dk HST.out HSD.out hgt hii hjj (by omega))
                  have hcw : ∀ t, t < n → wc.cell? ⟨g, off + t, none⟩ = some (.int .u64 (G t)) := fun t ht => by rw [HG.out]; exact HA2.out.cells t (by rw [HSK.out]; exact ht)
                  have hfw : ∀ t, t < n → wc.frozen? ⟨g, off + t, none⟩ = false := fun t _ => HA2.out.free t
                  have hjn : j < n := by omega
                  have hinn : i < n := by omega
                  obtain ⟨v2, hv2⟩ := cell?_setCell_some (w := wc) (p := ⟨g, off + i, none⟩) (x := .int .u64 (G j)) (q := ⟨g, off + j, none⟩) (v := .int .u64 (G j)) (hcw _ hjn)
                  have HS2 : Hid (Ar w0 ((((wc.setCell ⟨g, off + i, none⟩ (.int .u64 (G j))).setCell ⟨g, off + j, none⟩ (.int .u64 (G i))).drew)) g off ty N (swp dk i j)) := by
                    show Ar _ _ _ _ _ _ _
                    rw [HG.out, HG.out]; exact (HA2.out.swap i j (by rw [HSK.out]; exact hinn) (by rw [HSK.out]; exact hjn)).drew
                  go_wp2_with fail
                  go_region
                  all_goals clear hv2 hcw hfw
                  go_wp2_with fail
                  go_roundw
                  case rel => exact ⟨i + 1, j - 1, swp dk i j, by go_num, by congr 1; omega, by omega, by omega, by omega, by omega, by rw [size_swp]; exact HSK.out, HS2.out, by rw [← HF.out]; exact HO.out⟩
                  case measure => simp [intOf]; omega
              · have ht := HT.out
                rw [Bool.and_eq_true] at ht
                have hij : i ≤ j := of_decide_eq_true ht.1
                have hgo := sdn_go (fun x => ltInt dk[a]! x) dk i j hij (by omega) (by have := ht.2; rw [HG.out, HG.out] at this; exact this)
                have HGO := Lib.hid hgo
                have hja : a < j := by omega
                clear hgo ht HT
                go_wp2_with fail
                go_roundw
                case rel => exact ⟨j - 1, by congr 1; omega, by omega, by omega, HA2.out, by rw [← HGO.out]; exact HU.out⟩
                case measure => simp [intOf]; omega
        · have ht := HT.out
          rw [Bool.and_eq_true] at ht
          have hij : i ≤ j1 := of_decide_eq_true ht.1
          have hgo := su_go (fun x => !ltInt dk[a]! x) dk j1 i hij (by have := ht.2; rw [HG.out, HG.out] at this; exact this)
          have HGO := Lib.hid hgo
          clear hgo ht HT
          go_wp2_with fail
          go_roundw
          case rel => exact ⟨i + 1, by go_num, by omega, by omega, HA'.out, by rw [← HGO.out]; exact HU.out⟩
          case measure => simp [intOf]; omega

end Go.Proofs.Ytbnmildjamjjmaa
