/-
  The library's sort of uint64, its walks: partitionOrdered. Conditions: at most 100000 numbers.
-/
import Derived.Test.YtbnmildjamjjmaaSortC
namespace Go.Proofs.Ytbnmildjamjjmaa
open Go.RowKit
open Go.Sort (swp ltInt size_swp)

theorem pl_stop (a i j i2 j2 : Nat) (d : Array Int) (hi : Sort.scanUp (fun x => ltInt x d[a]!) d j i = i2) (hj : Sort.scanDown (fun x => !ltInt x d[a]!) d i2 j = j2) (h : j2 < i2) : Sort.partLoop ltInt a i j d = (j2, d) := by
  rw [Sort.partLoop]
  simp only [hi, hj]
  rw [if_pos h]
theorem pl_go (a i j i2 j2 : Nat) (d : Array Int) (hi : Sort.scanUp (fun x => ltInt x d[a]!) d j i = i2) (hj : Sort.scanDown (fun x => !ltInt x d[a]!) d i2 j = j2) (h : ¬ j2 < i2) (h1 : i ≤ i2) (h2 : j2 ≤ j) (h3 : 0 < i2) : Sort.partLoop ltInt a i j d = Sort.partLoop ltInt a (i2 + 1) (j2 - 1) (swp d i2 j2) := by
  rw [Sort.partLoop]
  simp only [hi, hj]
  rw [if_neg h, dif_pos (by omega)]
theorem pt_stop (a b pivot i j : Nat) (d : Array Int) (hi : Sort.scanUp (fun x => ltInt x (swp d a pivot)[a]!) (swp d a pivot) (b - 1) (a + 1) = i) (hj : Sort.scanDown (fun x => !ltInt x (swp d a pivot)[a]!) (swp d a pivot) i (b - 1) = j) (h : j < i) : Sort.partition ltInt d a b pivot = (j, true, swp (swp d a pivot) j a) := by
  unfold Sort.partition
  simp only [hi, hj]
  rw [if_pos h]
theorem pt_go (a b pivot i j m : Nat) (d e : Array Int) (hi : Sort.scanUp (fun x => ltInt x (swp d a pivot)[a]!) (swp d a pivot) (b - 1) (a + 1) = i) (hj : Sort.scanDown (fun x => !ltInt x (swp d a pivot)[a]!) (swp d a pivot) i (b - 1) = j) (h : ¬ j < i) (hl : Sort.partLoop ltInt a (i + 1) (j - 1) (swp (swp d a pivot) i j) = (m, e)) :
    Sort.partition ltInt d a b pivot = (m, false, swp e m a) := by
  unfold Sort.partition
  simp only [hi, hj]
  rw [if_neg h, hl]

set_option maxRecDepth 100000 in
set_option maxHeartbeats 16000000 in
theorem part_any {w0 w : World} {g off : Nat} {ty : TypeId} {N : Nat} {d : Array Int} (h : Ar w0 w g off ty N d) (cap a b pivot : Nat) (h1 : a ≤ pivot) (h2 : pivot < b) (hb : b ≤ d.size) (hsz : d.size ≤ 100000) :
    Calls Try.prog 51 #[.slice (some ⟨g, off, none⟩) d.size cap, .int .i64 a, .int .i64 b, .int .i64 pivot] w fun e w' => e = .returned (.tuple #[.int .i64 ((Sort.partition ltInt d a b pivot).1 : Nat), .bool (Sort.partition ltInt d a b pivot).2.1]) ∧ Ar w0 w' g off ty N (Sort.partition ltInt d a b pivot).2.2 := by
  obtain ⟨n, hn⟩ : ∃ n, d.size = n := ⟨_, rfl⟩
  obtain ⟨G0, hG⟩ : ∃ G : Nat → Int, ∀ t, G t = d[t]! := ⟨fun t => d[t]!, fun _ => rfl⟩
  have hcw : ∀ t, t < n → w.cell? ⟨g, off + t, none⟩ = some (.int .u64 (G0 t)) := fun t ht => by rw [hG]; exact h.cells t (by rw [hn]; exact ht)
  have hfw : ∀ t, t < n → w.frozen? ⟨g, off + t, none⟩ = false := fun t _ => h.free t
  rw [hn] at hb hsz ⊢
  obtain ⟨v', hv'⟩ := cell?_setCell_some (w := w) (p := ⟨g, off + a, none⟩) (x := .int .u64 (G0 pivot)) (q := ⟨g, off + pivot, none⟩) (v := .int .u64 (G0 pivot)) (hcw _ (by omega))
  have hsw : Ar w0 ((((w.setCell ⟨g, off + a, none⟩ (.int .u64 (G0 pivot))).setCell ⟨g, off + pivot, none⟩ (.int .u64 (G0 a))).drew)) g off ty N (swp d a pivot) := by rw [hG, hG]; exact (h.swap a pivot (by omega) (by omega)).drew
  have HSW := Lib.hid hsw
  have HZ : Hid ((swp d a pivot).size = n) := (size_swp d a pivot).trans hn
  obtain ⟨j1, hj0⟩ : ∃ j1, b - 1 = j1 := ⟨_, rfl⟩
  have HPS := Lib.hid (fun i j => pt_stop a b pivot i j d)
  have HPG := Lib.hid (fun i j m e => pt_go a b pivot i j m d e)
  rw [hj0] at HPS HPG
  have e1 : (b : Int) - 1 = (j1 : Int) := by omega
  have hjb : j1 < n := by omega
  have haj : a ≤ j1 := by omega
  have han : a + 1 ≤ n := by omega
  clear h hn hG hsw hj0
  generalize swp d a pivot = d1 at *
  obtain ⟨G, hG⟩ : ∃ G : Nat → Int, ∀ t, G t = d1[t]! := ⟨fun t => d1[t]!, fun _ => rfl⟩
  have HG := Lib.hid hG
  clear hG
  go_enter Try.func51, Try.ntmps51
  go_wp2_with fail
  go_region
  all_goals clear hv' hcw hfw
  go_wp2_with fail
  obtain ⟨w1, hw1⟩ : ∃ w1, w1 = ((w.setCell ⟨g, off + a, none⟩ (.int .u64 (G0 pivot))).setCell ⟨g, off + pivot, none⟩ (.int .u64 (G0 a))).drew := ⟨_, rfl⟩
  rw [← hw1] at HSW ⊢
  clear hw1 e1
  obtain ⟨i0, hi0⟩ : ∃ i0, i0 = a + 1 := ⟨_, rfl⟩
  rw [show ((a : Int) + 1) = (i0 : Int) from by omega]
  have hi1 : i0 ≤ n := by omega
  rw [← hi0] at HPS HPG
  have HI0 := Lib.hid hi0
  have hai0 : a < i0 := by omega
  clear hi0
  go_loopw [10] (fun vi wr => ∃ i : Nat, vi = .int .i64 i ∧ i0 ≤ i ∧ i ≤ n ∧ Ar w0 wr g off ty N d1 ∧ Sort.scanUp (fun x => ltInt x d1[a]!) d1 j1 i = Sort.scanUp (fun x => ltInt x d1[a]!) d1 j1 i0) (fun vi _ => n - (intOf vi).toNat)
  case atStart => exact ⟨i0, rfl, Nat.le_refl _, hi1, HSW.out, rfl⟩
  case round =>
    obtain ⟨i, rfl, hii, hin2, hB, hU⟩ := hrel
    have hcw : ∀ t, t < n → wr.cell? ⟨g, off + t, none⟩ = some (.int .u64 (G t)) := fun t ht => by rw [HG.out]; exact hB.cells t (by rw [HZ.out]; exact ht)
    have HB := Lib.hid hB
    have HU := Lib.hid hU
    clear hB hU
    obtain ⟨t, ht⟩ : ∃ t : Bool, (decide (i ≤ j1) && ltInt (G i) (G a)) = t := ⟨_, rfl⟩
    have HT := Lib.hid ht
    clear ht
    go_wp2_with fail
    go_cut [43] (fun v wx => v = .bool t ∧ Ar w0 wx g off ty N d1)
    case first =>
      have ht := HT.out
      by_cases hij : i ≤ j1
      · have hd : decide (i ≤ j1) = true := decide_eq_true hij
        rw [hd, Bool.true_and] at ht
        have HT2 := Lib.hid ht
        clear ht
        go_quiet (first | (go_at_call 49; refine Calls.quiet_of_same (less_u _ _ _)))
        go_wp2_with fail
        go_meet
        exact ⟨by rw [HT2.out], HB.out.drewN _⟩
      · have hd : decide (i ≤ j1) = false := decide_eq_false hij
        rw [hd, Bool.false_and] at ht
        have HT2 := Lib.hid ht
        clear ht
        go_quiet (first | (go_at_call 49; refine Calls.quiet_of_same (less_u _ _ _)))
        go_wp2_with fail
        go_meet
        exact ⟨by rw [← HT2.out], HB.out.drewN _⟩
    case rest =>
      obtain ⟨rfl, hA'⟩ := hcut
      have HA' := Lib.hid hA'
      clear hA' hcw HB
      cases t
      · have hst : Sort.scanUp (fun x => ltInt x d1[a]!) d1 j1 i0 = i := by
          rw [← HU.out]
          refine su_stop _ d1 j1 i ?_
          have := HT.out
          rw [HG.out, HG.out, Bool.and_eq_false_iff] at this
          exact this.imp of_decide_eq_false id
        have HSTi := Lib.hid hst
        clear hst HT HU
        obtain ⟨wi, hwi⟩ : ∃ wi, wi = wc := ⟨_, rfl⟩
        rw [← hwi] at HA' ⊢
        clear hwi
        go_wp2_with fail
        go_loopw [11] (fun vj wr => ∃ j : Nat, vj = .int .i64 j ∧ j ≤ j1 ∧ a ≤ j ∧ Ar w0 wr g off ty N d1 ∧ Sort.scanDown (fun x => !ltInt x d1[a]!) d1 i j = Sort.scanDown (fun x => !ltInt x d1[a]!) d1 i j1) (fun vj _ => (intOf vj).toNat)
        case atStart => exact ⟨j1, rfl, Nat.le_refl _, haj, HA'.out, rfl⟩
        case round =>
          obtain ⟨j, rfl, hjj, haj2, hB, hU⟩ := hrel
          have hcw : ∀ t, t < n → wr.cell? ⟨g, off + t, none⟩ = some (.int .u64 (G t)) := fun t ht => by rw [HG.out]; exact hB.cells t (by rw [HZ.out]; exact ht)
          have HB := Lib.hid hB
          have HU := Lib.hid hU
          clear hB hU
          obtain ⟨t, ht⟩ : ∃ t : Bool, (decide (i ≤ j) && !ltInt (G j) (G a)) = t := ⟨_, rfl⟩
          have HT := Lib.hid ht
          clear ht
          go_wp2_with fail
          go_cut [60] (fun v wx => v = .bool t ∧ Ar w0 wx g off ty N d1)
          case first =>
            have ht := HT.out
            by_cases hij : i ≤ j
            · have hd : decide (i ≤ j) = true := decide_eq_true hij
              rw [hd, Bool.true_and] at ht
              have HT2 := Lib.hid ht
              clear ht
              go_quiet (first | (go_at_call 49; refine Calls.quiet_of_same (less_u _ _ _)))
              go_wp2_with fail
              go_meet
              exact ⟨by rw [HT2.out], HB.out.drewN _⟩
            · have hd : decide (i ≤ j) = false := decide_eq_false hij
              rw [hd, Bool.false_and] at ht
              have HT2 := Lib.hid ht
              clear ht
              go_quiet (first | (go_at_call 49; refine Calls.quiet_of_same (less_u _ _ _)))
              go_wp2_with fail
              go_meet
              exact ⟨by rw [← HT2.out], HB.out.drewN _⟩
          case rest =>
            obtain ⟨rfl, hA'⟩ := hcut
            have HA2 := Lib.hid hA'
            clear hA' hcw HB
            cases t
            · have hst : Sort.scanDown (fun x => !ltInt x d1[a]!) d1 i j1 = j := by
                rw [← HU.out]
                refine sdn_stop _ d1 i j ?_
                have := HT.out
                rw [HG.out, HG.out, Bool.and_eq_false_iff] at this
                exact this.imp of_decide_eq_false id
              have HSDj := Lib.hid hst
              clear hst HT HU
              by_cases hgt : j < i
              · have HF := Lib.hid (HPS.out i j HSTi.out HSDj.out hgt)
                have hcw : ∀ t, t < n → wc.cell? ⟨g, off + t, none⟩ = some (.int .u64 (G t)) := fun t ht => by rw [HG.out]; exact HA2.out.cells t (by rw [HZ.out]; exact ht)
                have hfw : ∀ t, t < n → wc.frozen? ⟨g, off + t, none⟩ = false := fun t _ => HA2.out.free t
                have hxn : j < n := by omega
                have hyn : a < n := by omega
                obtain ⟨v2, hv2⟩ := cell?_setCell_some (w := wc) (p := ⟨g, off + j, none⟩) (x := .int .u64 (G a)) (q := ⟨g, off + a, none⟩) (v := .int .u64 (G a)) (hcw _ hyn)
                have HS2 : Hid (Ar w0 ((((wc.setCell ⟨g, off + j, none⟩ (.int .u64 (G a))).setCell ⟨g, off + a, none⟩ (.int .u64 (G j))).drew)) g off ty N (swp d1 j a)) := by
                  show Ar _ _ _ _ _ _ _
                  rw [HG.out, HG.out]; exact (HA2.out.swap j a (by rw [HZ.out]; exact hxn) (by rw [HZ.out]; exact hyn)).drew
                go_wp2_with fail
                go_region
                all_goals clear hv2 hcw hfw
                go_wp2_with fail
                go_ret2
                rw [HF.out]
                exact ⟨rfl, HS2.out⟩
              · have hcw : ∀ t, t < n → wc.cell? ⟨g, off + t, none⟩ = some (.int .u64 (G t)) := fun t ht => by rw [HG.out]; exact HA2.out.cells t (by rw [HZ.out]; exact ht)
                have hfw : ∀ t, t < n → wc.frozen? ⟨g, off + t, none⟩ = false := fun t _ => HA2.out.free t
                have hxn : i < n := by omega
                have hyn : j < n := by omega
                obtain ⟨v2, hv2⟩ := cell?_setCell_some (w := wc) (p := ⟨g, off + i, none⟩) (x := .int .u64 (G j)) (q := ⟨g, off + j, none⟩) (v := .int .u64 (G j)) (hcw _ hyn)
                have HS2 : Hid (Ar w0 ((((wc.setCell ⟨g, off + i, none⟩ (.int .u64 (G j))).setCell ⟨g, off + j, none⟩ (.int .u64 (G i))).drew)) g off ty N (swp d1 i j)) := by
                  show Ar _ _ _ _ _ _ _
                  rw [HG.out, HG.out]; exact (HA2.out.swap i j (by rw [HZ.out]; exact hxn) (by rw [HZ.out]; exact hyn)).drew
                go_wp2_with fail
                go_region
                all_goals clear hv2 hcw hfw
                go_wp2_with fail
                have HSK1 : Hid ((swp d1 i j).size = n) := (size_swp d1 i j).trans HZ.out
                obtain ⟨w2, hw2⟩ : ∃ w2, w2 = ((wc.setCell ⟨g, off + i, none⟩ (.int .u64 (G j))).setCell ⟨g, off + j, none⟩ (.int .u64 (G i))).drew := ⟨_, rfl⟩
                rw [← hw2] at HS2 ⊢
                clear hw2
                go_loopw [10, 11] (fun vi vj wr => ∃ (i2 j2 : Nat) (dk : Array Int), vi = .int .i64 i2 ∧ vj = .int .i64 j2 ∧ a < i2 ∧ i2 ≤ n ∧ a ≤ j2 ∧ j2 < n ∧ dk.size = n ∧ Ar w0 wr g off ty N dk ∧ Sort.partLoop ltInt a i2 j2 dk = Sort.partLoop ltInt a (i + 1) (j - 1) (swp d1 i j)) (fun vi vj _ => (intOf vj).toNat + 1 - (intOf vi).toNat)
                case atStart => exact ⟨i + 1, j - 1, swp d1 i j, by go_num, by congr 1; omega, by omega, by omega, by omega, by omega, HSK1.out, HS2.out, rfl⟩
                case round =>
                  obtain ⟨i2, j2, dk, rfl, rfl, hi2, hin, haj1, hj2, hsk, hA, hO⟩ := hrel
                  obtain ⟨wo, hwo⟩ : ∃ wo, wo = wr := ⟨_, rfl⟩
                  rw [← hwo] at hA ⊢
                  clear hwo
                  obtain ⟨G2, hG⟩ : ∃ G : Nat → Int, ∀ t, G t = dk[t]! := ⟨fun t => dk[t]!, fun _ => rfl⟩
                  have HG2 := Lib.hid hG
                  have HO := Lib.hid hO
                  have HSK2 := Lib.hid hsk
                  have HAA := Lib.hid hA
                  clear hG hO hsk hA
                  go_wp2_with fail
                  go_loopw [10] (fun vi wr => ∃ i' : Nat, vi = .int .i64 i' ∧ i2 ≤ i' ∧ i' ≤ n ∧ Ar w0 wr g off ty N dk ∧ Sort.scanUp (fun x => ltInt x dk[a]!) dk j2 i' = Sort.scanUp (fun x => ltInt x dk[a]!) dk j2 i2) (fun vi _ => n - (intOf vi).toNat)
                  case atStart => exact ⟨i2, rfl, Nat.le_refl _, hin, HAA.out, rfl⟩
                  case round =>
                    obtain ⟨i', rfl, hii, hin2, hB, hU⟩ := hrel
                    have hcw : ∀ t, t < n → wr.cell? ⟨g, off + t, none⟩ = some (.int .u64 (G2 t)) := fun t ht => by rw [HG2.out]; exact hB.cells t (by rw [HSK2.out]; exact ht)
                    have HB := Lib.hid hB
                    have HU := Lib.hid hU
                    clear hB hU
                    obtain ⟨t, ht⟩ : ∃ t : Bool, (decide (i' ≤ j2) && ltInt (G2 i') (G2 a)) = t := ⟨_, rfl⟩
                    have HT := Lib.hid ht
                    clear ht
                    go_wp2_with fail
                    go_cut [112] (fun v wx => v = .bool t ∧ Ar w0 wx g off ty N dk)
                    case first =>
                      have ht := HT.out
                      by_cases hij : i' ≤ j2
                      · have hd : decide (i' ≤ j2) = true := decide_eq_true hij
                        rw [hd, Bool.true_and] at ht
                        have HT2 := Lib.hid ht
                        clear ht
                        go_quiet (first | (go_at_call 49; refine Calls.quiet_of_same (less_u _ _ _)))
                        go_wp2_with fail
                        go_meet
                        exact ⟨by rw [HT2.out], HB.out.drewN _⟩
                      · have hd : decide (i' ≤ j2) = false := decide_eq_false hij
                        rw [hd, Bool.false_and] at ht
                        have HT2 := Lib.hid ht
                        clear ht
                        go_quiet (first | (go_at_call 49; refine Calls.quiet_of_same (less_u _ _ _)))
                        go_wp2_with fail
                        go_meet
                        exact ⟨by rw [← HT2.out], HB.out.drewN _⟩
                    case rest =>
                      obtain ⟨rfl, hA'⟩ := hcut
                      have HA' := Lib.hid hA'
                      clear hA' hcw HB
                      cases t
                      · have hst : Sort.scanUp (fun x => ltInt x dk[a]!) dk j2 i2 = i' := by
                          rw [← HU.out]
                          refine su_stop _ dk j2 i' ?_
                          have := HT.out
                          rw [HG2.out, HG2.out, Bool.and_eq_false_iff] at this
                          exact this.imp of_decide_eq_false id
                        have HSTi' := Lib.hid hst
                        clear hst HT HU
                        obtain ⟨wi, hwi⟩ : ∃ wi, wi = wc := ⟨_, rfl⟩
                        rw [← hwi] at HA' ⊢
                        clear hwi
                        go_wp2_with fail
                        go_loopw [11] (fun vj wr => ∃ j' : Nat, vj = .int .i64 j' ∧ j' ≤ j2 ∧ a ≤ j' ∧ Ar w0 wr g off ty N dk ∧ Sort.scanDown (fun x => !ltInt x dk[a]!) dk i' j' = Sort.scanDown (fun x => !ltInt x dk[a]!) dk i' j2) (fun vj _ => (intOf vj).toNat)
                        case atStart => exact ⟨j2, rfl, Nat.le_refl _, haj1, HA'.out, rfl⟩
                        case round =>
                          obtain ⟨j', rfl, hjj, haj2, hB, hU⟩ := hrel
                          have hcw : ∀ t, t < n → wr.cell? ⟨g, off + t, none⟩ = some (.int .u64 (G2 t)) := fun t ht => by rw [HG2.out]; exact hB.cells t (by rw [HSK2.out]; exact ht)
                          have HB := Lib.hid hB
                          have HU := Lib.hid hU
                          clear hB hU
                          obtain ⟨t, ht⟩ : ∃ t : Bool, (decide (i' ≤ j') && !ltInt (G2 j') (G2 a)) = t := ⟨_, rfl⟩
                          have HT := Lib.hid ht
                          clear ht
                          go_wp2_with fail
                          go_cut [129] (fun v wx => v = .bool t ∧ Ar w0 wx g off ty N dk)
                          case first =>
                            have ht := HT.out
                            by_cases hij : i' ≤ j'
                            · have hd : decide (i' ≤ j') = true := decide_eq_true hij
                              rw [hd, Bool.true_and] at ht
                              have HT2 := Lib.hid ht
                              clear ht
                              go_quiet (first | (go_at_call 49; refine Calls.quiet_of_same (less_u _ _ _)))
                              go_wp2_with fail
                              go_meet
                              exact ⟨by rw [HT2.out], HB.out.drewN _⟩
                            · have hd : decide (i' ≤ j') = false := decide_eq_false hij
                              rw [hd, Bool.false_and] at ht
                              have HT2 := Lib.hid ht
                              clear ht
                              go_quiet (first | (go_at_call 49; refine Calls.quiet_of_same (less_u _ _ _)))
                              go_wp2_with fail
                              go_meet
                              exact ⟨by rw [← HT2.out], HB.out.drewN _⟩
                          case rest =>
                            obtain ⟨rfl, hA'⟩ := hcut
                            have HA2 := Lib.hid hA'
                            clear hA' hcw HB
                            cases t
                            · have hst : Sort.scanDown (fun x => !ltInt x dk[a]!) dk i' j2 = j' := by
                                rw [← HU.out]
                                refine sdn_stop _ dk i' j' ?_
                                have := HT.out
                                rw [HG2.out, HG2.out, Bool.and_eq_false_iff] at this
                                exact this.imp of_decide_eq_false id
                              have HSDj' := Lib.hid hst
                              clear hst HT HU
                              by_cases hgt2 : j' < i'
                              · have HF := Lib.hid (pl_stop a i2 j2 i' j' dk HSTi'.out HSDj'.out hgt2)
                                have hcw : ∀ t, t < n → wc.cell? ⟨g, off + t, none⟩ = some (.int .u64 (G2 t)) := fun t ht => by rw [HG2.out]; exact HA2.out.cells t (by rw [HSK2.out]; exact ht)
                                have hfw : ∀ t, t < n → wc.frozen? ⟨g, off + t, none⟩ = false := fun t _ => HA2.out.free t
                                have hxn : j' < n := by omega
                                have hyn : a < n := by omega
                                obtain ⟨v2, hv2⟩ := cell?_setCell_some (w := wc) (p := ⟨g, off + j', none⟩) (x := .int .u64 (G2 a)) (q := ⟨g, off + a, none⟩) (v := .int .u64 (G2 a)) (hcw _ hyn)
                                have HS3 : Hid (Ar w0 ((((wc.setCell ⟨g, off + j', none⟩ (.int .u64 (G2 a))).setCell ⟨g, off + a, none⟩ (.int .u64 (G2 j'))).drew)) g off ty N (swp dk j' a)) := by
                                  show Ar _ _ _ _ _ _ _
                                  rw [HG2.out, HG2.out]; exact (HA2.out.swap j' a (by rw [HSK2.out]; exact hxn) (by rw [HSK2.out]; exact hyn)).drew
                                go_wp2_with fail
                                go_region
                                all_goals clear hv2 hcw hfw
                                go_wp2_with fail
                                go_ret2
                                have hF : Sort.partLoop ltInt a (i + 1) (j - 1) (swp d1 i j) = (j', dk) := by rw [← HO.out]; exact HF.out
                                rw [HPG.out i j j' dk HSTi.out HSDj.out hgt hF]
                                exact ⟨rfl, HS3.out⟩
                              · have HF := Lib.hid (pl_go a i2 j2 i' j' dk HSTi'.out HSDj'.out hgt2 hii hjj (by omega))
                                have hcw : ∀ t, t < n → wc.cell? ⟨g, off + t, none⟩ = some (.int .u64 (G2 t)) := fun t ht => by rw [HG2.out]; exact HA2.out.cells t (by rw [HSK2.out]; exact ht)
                                have hfw : ∀ t, t < n → wc.frozen? ⟨g, off + t, none⟩ = false := fun t _ => HA2.out.free t
                                have hxn : i' < n := by omega
                                have hyn : j' < n := by omega
                                obtain ⟨v2, hv2⟩ := cell?_setCell_some (w := wc) (p := ⟨g, off + i', none⟩) (x := .int .u64 (G2 j')) (q := ⟨g, off + j', none⟩) (v := .int .u64 (G2 j')) (hcw _ hyn)
                                have HS3 : Hid (Ar w0 ((((wc.setCell ⟨g, off + i', none⟩ (.int .u64 (G2 j'))).setCell ⟨g, off + j', none⟩ (.int .u64 (G2 i'))).drew)) g off ty N (swp dk i' j')) := by
                                  show Ar _ _ _ _ _ _ _
                                  rw [HG2.out, HG2.out]; exact (HA2.out.swap i' j' (by rw [HSK2.out]; exact hxn) (by rw [HSK2.out]; exact hyn)).drew
                                go_wp2_with fail
                                go_region
                                all_goals clear hv2 hcw hfw
                                go_wp2_with fail
                                go_roundw
                                case rel => exact ⟨i' + 1, j' - 1, swp dk i' j', by go_num, by congr 1; omega, by omega, by omega, by omega, by omega, by rw [size_swp]; exact HSK2.out, HS3.out, by rw [← HF.out]; exact HO.out⟩
                                case measure => simp [intOf]; omega
                            · have ht := HT.out
                              rw [Bool.and_eq_true] at ht
                              have hij : i' ≤ j' := of_decide_eq_true ht.1
                              have hgo := sdn_go (fun x => !ltInt x dk[a]!) dk i' j' hij (by omega) (by have := ht.2; rw [HG2.out, HG2.out] at this; exact this)
                              have HGO := Lib.hid hgo
                              have hja : a < j' := by omega
                              clear hgo ht HT
                              go_wp2_with fail
                              go_roundw
                              case rel => exact ⟨j' - 1, by congr 1; omega, by omega, by omega, HA2.out, by rw [← HGO.out]; exact HU.out⟩
                              case measure => simp [intOf]; omega
                      · have ht := HT.out
                        rw [Bool.and_eq_true] at ht
                        have hij : i' ≤ j2 := of_decide_eq_true ht.1
                        have hgo := su_go (fun x => ltInt x dk[a]!) dk j2 i' hij (by have := ht.2; rw [HG2.out, HG2.out] at this; exact this)
                        have HGO := Lib.hid hgo
                        clear hgo ht HT
                        go_wp2_with fail
                        go_roundw
                        case rel => exact ⟨i' + 1, by go_num, by omega, by omega, HA'.out, by rw [← HGO.out]; exact HU.out⟩
                        case measure => simp [intOf]; omega
            · have ht := HT.out
              rw [Bool.and_eq_true] at ht
              have hij : i ≤ j := of_decide_eq_true ht.1
              have hgo := sdn_go (fun x => !ltInt x d1[a]!) d1 i j hij (by omega) (by have := ht.2; rw [HG.out, HG.out] at this; exact this)
              have HGO := Lib.hid hgo
              have hja : a < j := by omega
              clear hgo ht HT
              go_wp2_with fail
              go_roundw
              case rel => exact ⟨j - 1, by congr 1; omega, by omega, by omega, HA2.out, by rw [← HGO.out]; exact HU.out⟩
              case measure => simp [intOf]; omega
      · have ht := HT.out
        rw [Bool.and_eq_true] at ht
        have hij : i ≤ j1 := of_decide_eq_true ht.1
        have hgo := su_go (fun x => ltInt x d1[a]!) d1 j1 i hij (by have := ht.2; rw [HG.out, HG.out] at this; exact this)
        have HGO := Lib.hid hgo
        clear hgo ht HT
        go_wp2_with fail
        go_roundw
        case rel => exact ⟨i + 1, by go_num, by omega, by omega, HA'.out, by rw [← HGO.out]; exact HU.out⟩
        case measure => simp [intOf]; omega

end Go.Proofs.Ytbnmildjamjjmaa
