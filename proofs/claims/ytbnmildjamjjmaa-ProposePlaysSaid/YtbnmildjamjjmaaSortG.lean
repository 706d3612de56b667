/-
  The library's sort of uint64, its walks: partialInsertionSortOrdered. Conditions: at most 100000 numbers.
-/
import Derived.Test.YtbnmildjamjjmaaSortA
import Derived.Deep.DeepCutAuto
import Derived.Deep.Cut
namespace Go.Proofs.Ytbnmildjamjjmaa
open Go.RowKit
open Go.Sort (swp ltInt size_swp)

theorem ss_go (d : Array Int) (b i : Nat) (h : i < b) (hl : ltInt d[i]! d[i - 1]! = false) : Sort.scanSorted ltInt d b i = Sort.scanSorted ltInt d b (i + 1) := by
  rw [Sort.scanSorted, if_pos (by rw [hl, decide_eq_true h]; rfl)]
theorem ss_stop (d : Array Int) (b i : Nat) (h : ¬ i < b ∨ ltInt d[i]! d[i - 1]! = true) : Sort.scanSorted ltInt d b i = i := by
  rw [Sort.scanSorted, if_neg]
  rcases h with h | h
  · rw [decide_eq_false h]; simp
  · rw [h]; simp
theorem sh_go (d : Array Int) (j : Nat) (h : 0 < j) (hl : ltInt d[j]! d[j - 1]! = true) : Sort.shiftDown ltInt j d = Sort.shiftDown ltInt (j - 1) (swp d j (j - 1)) := by
  obtain ⟨k, rfl⟩ : ∃ k, j = k + 1 := ⟨j - 1, by omega⟩
  rw [Nat.add_sub_cancel] at hl ⊢
  rw [Sort.shiftDown, hl]
  rfl
theorem sh_stop (d : Array Int) (j : Nat) (h : j = 0 ∨ ltInt d[j]! d[j - 1]! = false) : Sort.shiftDown ltInt j d = d := by
  cases j with
  | zero => rfl
  | succ k =>
    rw [Nat.add_sub_cancel] at h
    rcases h with h | h
    · omega
    · rw [Sort.shiftDown, h]; rfl
theorem up_go (d : Array Int) (b j : Nat) (h : j < b) (hl : ltInt d[j]! d[j - 1]! = true) : Sort.shiftUp ltInt b j d = Sort.shiftUp ltInt b (j + 1) (swp d j (j - 1)) := by
  rw [Sort.shiftUp, if_pos h, hl]
  rfl
theorem up_stop (d : Array Int) (b j : Nat) (h : ¬ j < b ∨ ltInt d[j]! d[j - 1]! = false) : Sort.shiftUp ltInt b j d = d := by
  rw [Sort.shiftUp]
  split
  · rename_i hj
    rcases h with h | h
    · exact absurd hj h
    · rw [h]; rfl
  · rfl
theorem pi_true (a b s i i2 : Nat) (d : Array Int) (hi : Sort.scanSorted ltInt d b i = i2) (h : i2 = b) : Sort.partialIns ltInt a b (s + 1) i d = (d, true) := by
  rw [Sort.partialIns]
  simp only [hi]
  rw [if_pos h]
theorem pi_false (a b s i i2 : Nat) (d : Array Int) (hi : Sort.scanSorted ltInt d b i = i2) (h : i2 ≠ b) (h50 : b - a < 50) : Sort.partialIns ltInt a b (s + 1) i d = (d, false) := by
  rw [Sort.partialIns]
  simp only [hi]
  rw [if_neg h, if_pos h50]
theorem pi_go (a b s i i2 : Nat) (d : Array Int) (hi : Sort.scanSorted ltInt d b i = i2) (h : i2 ≠ b) (h50 : ¬ b - a < 50) :
    Sort.partialIns ltInt a b (s + 1) i d = Sort.partialIns ltInt a b s i2 (if b - i2 ≥ 2 then Sort.shiftUp ltInt b (i2 + 1) (if i2 - a ≥ 2 then Sort.shiftDown ltInt (i2 - 1) (swp d i2 (i2 - 1)) else swp d i2 (i2 - 1)) else (if i2 - a ≥ 2 then Sort.shiftDown ltInt (i2 - 1) (swp d i2 (i2 - 1)) else swp d i2 (i2 - 1))) := by
  rw [Sort.partialIns]
  simp only [hi]
  rw [if_neg h, if_neg h50]

set_option maxRecDepth 100000 in
set_option maxHeartbeats 8000000 in
theorem partial_any {w0 w : World} {g off : Nat} {ty : TypeId} {N : Nat} {d : Array Int} (h : Ar w0 w g off ty N d) (cap a b : Nat) (hab : a < b) (hb : b ≤ d.size) (hsz : d.size ≤ 100000) :
    Calls Try.prog 48 #[.slice (some ⟨g, off, none⟩) d.size cap, .int .i64 a, .int .i64 b] w fun e w' => e = .returned (.bool (Sort.partialInsertionSort ltInt d a b).2) ∧ Ar w0 w' g off ty N (Sort.partialInsertionSort ltInt d a b).1 := by
  have H := Lib.hid h
  clear h
  obtain ⟨n, hn⟩ : ∃ n, d.size = n := ⟨_, rfl⟩
  have HN := Lib.hid hn
  rw [hn] at hb hsz ⊢
  clear hn
  have HQ : Hid (Sort.partialInsertionSort ltInt d a b = Sort.partialIns ltInt a b 5 (a + 1) d) := rfl
  go_enter Try.func48, Try.ntmps48
  go_wp2_with fail
  go_loopw [7, 8] (fun vi vk wr => ∃ (i k : Nat) (dk : Array Int), vi = .int .i64 i ∧ vk = .int .i64 k ∧ a < i ∧ i ≤ b ∧ k ≤ 5 ∧ dk.size = n ∧ Ar w0 wr g off ty N dk ∧ Sort.partialIns ltInt a b (5 - k) i dk = Sort.partialIns ltInt a b 5 (a + 1) d) (fun _ vk _ => 5 - (intOf vk).toNat)
  case atStart => exact ⟨a + 1, 0, d, by go_num, rfl, by omega, by omega, by omega, HN.out, H.out, rfl⟩
  case round =>
    obtain ⟨i0, k, dk, rfl, rfl, hai, hib, hk, hsk, hA, hO⟩ := hrel
    by_cases hk5 : k < 5
    · obtain ⟨s, hs⟩ : ∃ s, 5 - k = s + 1 := ⟨4 - k, by omega⟩
      have hs' : 5 - (k + 1) = s := by omega
      rw [hs] at hO
      obtain ⟨wo, hwo⟩ : ∃ wo, wo = wr := ⟨_, rfl⟩
      rw [← hwo] at hA ⊢
      clear hwo
      obtain ⟨G, hG⟩ : ∃ G : Nat → Int, ∀ t, G t = dk[t]! := ⟨fun t => dk[t]!, fun _ => rfl⟩
      have HG := Lib.hid hG
      have HO := Lib.hid hO
      have HSK := Lib.hid hsk
      have HA := Lib.hid hA
      have HSS := Lib.hid hs'
      have hk5i : (k : Int) < 5 := by omega
      clear hG hO hsk hA hs hs'
      go_wp2_with fail
      go_loopw [7] (fun vi wr => ∃ i : Nat, vi = .int .i64 i ∧ i0 ≤ i ∧ i ≤ b ∧ Ar w0 wr g off ty N dk ∧ Sort.scanSorted ltInt dk b i = Sort.scanSorted ltInt dk b i0) (fun vi _ => b - (intOf vi).toNat)
      case atStart => exact ⟨i0, rfl, Nat.le_refl _, hib, HA.out, rfl⟩
      case round =>
        obtain ⟨i, rfl, hii, hib2, hB, hU⟩ := hrel
        have hcw : ∀ t, t < n → wr.cell? ⟨g, off + t, none⟩ = some (.int .u64 (G t)) := fun t ht => by rw [HG.out]; exact hB.cells t (by rw [HSK.out]; exact ht)
        have HB := Lib.hid hB
        have HU := Lib.hid hU
        clear hB hU
        obtain ⟨t, ht⟩ : ∃ t : Bool, (decide (i < b) && !ltInt (G i) (G (i - 1))) = t := ⟨_, rfl⟩
        have HT := Lib.hid ht
        clear ht
        go_wp2_with fail
        go_cut [32] (fun v wx => v = .bool t ∧ Ar w0 wx g off ty N dk)
        case first =>
          have ht := HT.out
          by_cases hij : i < b
          · have hd : decide (i < b) = true := decide_eq_true hij
            rw [hd, Bool.true_and] at ht
            have HT2 := Lib.hid ht
            clear ht
            go_quiet (first | (go_at_call 49; refine Calls.quiet_of_same (less_u _ _ _)))
            go_wp2_with fail
            go_meet
            exact ⟨by rw [HT2.out], HB.out.drewN _⟩
          · have hd : decide (i < b) = false := decide_eq_false hij
            rw [hd, Bool.false_and] at ht
            have HT2 := Lib.hid ht
            clear ht
            go_quiet (first | (go_at_call 49; refine Calls.quiet_of_same (less_u _ _ _)))
            go_wp2_with fail
            go_meet
            exact ⟨by rw [← HT2.out], HB.out.drewN _⟩
        case rest =>
          obtain ⟨rfl, hA'⟩ := hcut
          have HA' := Lib.hid hA'
          clear hA' hcw HB
          cases t
          · have hst : Sort.scanSorted ltInt dk b i0 = i := by
              rw [← HU.out]
              refine ss_stop dk b i ?_
              have := HT.out
              rw [HG.out, HG.out, Bool.and_eq_false_iff] at this
              exact this.imp of_decide_eq_false (by simp)
            have HST := Lib.hid hst
            clear hst HT HU
            by_cases hib3 : i = b
            · have HF := Lib.hid (pi_true a b s i0 i dk HST.out hib3)
              have hibi : ((i : Int) == (b : Int)) = true := by rw [hib3]; simp
              go_wp2_with fail
              go_ret
              rw [HQ.out, ← HO.out, HF.out]
              exact ⟨rfl, HA'.out⟩
            · have hibi : ((i : Int) == (b : Int)) = false := beq_eq_false_iff_ne.2 (by omega)
              by_cases h50 : b - a < 50
              · have HF := Lib.hid (pi_false a b s i0 i dk HST.out hib3 h50)
                have h50i : (b : Int) - (a : Int) < 50 := by omega
                go_wp2_with fail
                go_ret
                rw [HQ.out, ← HO.out, HF.out]
                exact ⟨rfl, HA'.out⟩
              · have HF := Lib.hid (pi_go a b s i0 i dk HST.out hib3 h50)
                have h50i : ¬ (b : Int) - (a : Int) < 50 := by omega
                have hin : i < n := by omega
                have him : i - 1 < n := by omega
                have hi1 : 1 ≤ i := by omega
                have hcw : ∀ t, t < n → wc.cell? ⟨g, off + t, none⟩ = some (.int .u64 (G t)) := fun t ht => by rw [HG.out]; exact HA'.out.cells t (by rw [HSK.out]; exact ht)
                have hfw : ∀ t, t < n → wc.frozen? ⟨g, off + t, none⟩ = false := fun t _ => HA'.out.free t
                have HS : Hid (Ar w0 ((((wc.setCell ⟨g, off + i, none⟩ (.int .u64 (G (i - 1)))).setCell ⟨g, off + (i - 1), none⟩ (.int .u64 (G i))).drew)) g off ty N (swp dk i (i - 1))) := by
                  show Ar _ _ _ _ _ _ _
                  rw [HG.out, HG.out]; exact (HA'.out.swap i (i - 1) (by rw [HSK.out]; exact hin) (by rw [HSK.out]; exact him)).drew
                go_wp2_with fail
                go_region
                all_goals clear hcw hfw
                go_upto_if 61 with (fail)
                obtain ⟨d1, hd1⟩ : ∃ d1, swp dk i (i - 1) = d1 := ⟨_, rfl⟩
                have HZ1 : Hid (d1.size = n) := by show _ = _; rw [← hd1, size_swp]; exact HSK.out
                rw [hd1] at HS HF
                obtain ⟨ws, hws⟩ : ∃ ws, ws = ((wc.setCell ⟨g, off + i, none⟩ (.int .u64 (G (i - 1)))).setCell ⟨g, off + (i - 1), none⟩ (.int .u64 (G i))).drew := ⟨_, rfl⟩
                rw [← hws] at HS ⊢
                clear hws hd1
                obtain ⟨d2, hd2⟩ : ∃ d2, (if i - a ≥ 2 then Sort.shiftDown ltInt (i - 1) d1 else d1) = d2 := ⟨_, rfl⟩
                rw [hd2] at HF
                go_cut [] (fun wx => Ar w0 wx g off ty N d2 ∧ d2.size = n)
                case first =>
                  by_cases h2 : i - a ≥ 2
                  · rw [if_pos h2] at hd2
                    have HD2 := Lib.hid hd2
                    have h2i : (2 : Int) ≤ (i : Int) - (a : Int) := by omega
                    clear hd2
                    go_wp2_with fail
                    go_loopw [9] (fun vj wr => ∃ (j : Nat) (dj : Array Int), vj = .int .i64 j ∧ j ≤ i - 1 ∧ dj.size = n ∧ Ar w0 wr g off ty N dj ∧ Sort.shiftDown ltInt j dj = d2) (fun vj _ => (intOf vj).toNat)
                    case atStart => exact ⟨i - 1, d1, by congr 1; omega, Nat.le_refl _, HZ1.out, HS.out, HD2.out⟩
                    case round =>
                      obtain ⟨j, dj, rfl, hj1, hsj, hB, hU⟩ := hrel
                      by_cases hjp : 0 < j
                      · obtain ⟨G2, hG2⟩ : ∃ G : Nat → Int, ∀ t, G t = dj[t]! := ⟨fun t => dj[t]!, fun _ => rfl⟩
                        have hcw : ∀ t, t < n → wr.cell? ⟨g, off + t, none⟩ = some (.int .u64 (G2 t)) := fun t ht => by rw [hG2]; exact hB.cells t (by rw [hsj]; exact ht)
                        have hfw : ∀ t, t < n → wr.frozen? ⟨g, off + t, none⟩ = false := fun t _ => hB.free t
                        have HB := Lib.hid hB
                        have HG2 := Lib.hid hG2
                        have HU := Lib.hid hU
                        have HSJ := Lib.hid hsj
                        have hjn : j < n := by omega
                        have hjm : j - 1 < n := by omega
                        have hj1' : 1 ≤ j := by omega
                        clear hB hG2 hU hsj
                        go_wp2_with fail
                        go_quiet (first | (go_at_call 49; refine Calls.quiet_of_same (less_u _ _ _)))
                        cases hl : ltInt (G2 j) (G2 (j - 1))
                        · have HF : Hid (dj = d2) := by show _ = _; rw [← HU.out, sh_stop dj j (.inr (by rw [← HG2.out, ← HG2.out]; exact hl))]
                          go_wp2_with fail
                          go_meet
                          rw [← HF.out]
                          exact ⟨HB.out.drewN _, HSJ.out⟩
                        · have HGO : Hid (Sort.shiftDown ltInt (j - 1) (swp dj j (j - 1)) = d2) := by show _ = _; rw [← sh_go dj j hjp (by rw [← HG2.out, ← HG2.out]; exact hl)]; exact HU.out
                          go_wp2_with fail
                          have HS2 : Hid (Ar w0 (((((wr.drewN nq).setCell ⟨g, off + j, none⟩ (.int .u64 (G2 (j - 1)))).setCell ⟨g, off + (j - 1), none⟩ (.int .u64 (G2 j))).drew)) g off ty N (swp dj j (j - 1))) := by
                            show Ar _ _ _ _ _ _ _
                            rw [HG2.out, HG2.out]; exact ((HB.out.drewN nq).swap j (j - 1) (by rw [HSJ.out]; exact hjn) (by rw [HSJ.out]; exact hjm)).drew
                          go_region
                          all_goals clear hcw hfw
                          go_wp2_with fail
                          go_roundw
                          case rel => exact ⟨j - 1, swp dj j (j - 1), by congr 1; omega, by omega, by rw [size_swp]; exact HSJ.out, HS2.out, HGO.out⟩
                          case measure => simp [intOf]; omega
                      · have hj0 : j = 0 := by omega
                        have HF : Hid (dj = d2) := by show _ = _; rw [← hU, sh_stop dj j (.inl hj0)]
                        have HB := Lib.hid hB
                        have HSJ := Lib.hid hsj
                        clear hB hU hsj
                        go_wp2_with fail
                        go_meet
                        rw [← HF.out]
                        exact ⟨HB.out, HSJ.out⟩
                  · rw [if_neg h2] at hd2
                    have h2i : ¬ (2 : Int) ≤ (i : Int) - (a : Int) := by omega
                    have HD2 := Lib.hid hd2
                    clear hd2
                    go_wp2_with fail
                    go_meet
                    rw [← HD2.out]
                    exact ⟨HS.out, HZ1.out⟩
                case rest =>
                  obtain ⟨hA2, hz2⟩ := hcut
                  have HA2 := Lib.hid hA2
                  have HZ2 := Lib.hid hz2
                  clear hA2 hz2 hd2
                  obtain ⟨d3, hd3⟩ : ∃ d3, (if b - i ≥ 2 then Sort.shiftUp ltInt b (i + 1) d2 else d2) = d3 := ⟨_, rfl⟩
                  rw [hd3] at HF
                  obtain ⟨ws2, hws2⟩ : ∃ ws2, ws2 = wc := ⟨_, rfl⟩
                  rw [← hws2] at HA2 ⊢
                  clear hws2
                  have HF0 := Lib.hid HF.out
                  clear HF
                  by_cases h2 : b - i ≥ 2
                  · rw [if_pos h2] at hd3
                    have HD3 := Lib.hid hd3
                    have h2i : (2 : Int) ≤ (b : Int) - (i : Int) := by omega
                    clear hd3
                    go_wp2_with fail
                    go_loopw [10] (fun vj wr => ∃ (j : Nat) (dj : Array Int), vj = .int .i64 j ∧ i < j ∧ j ≤ b ∧ dj.size = n ∧ Ar w0 wr g off ty N dj ∧ Sort.shiftUp ltInt b j dj = d3) (fun vj _ => b - (intOf vj).toNat)
                    case atStart => exact ⟨i + 1, d2, by go_num, by omega, by omega, HZ2.out, HA2.out, HD3.out⟩
                    case round =>
                      obtain ⟨j, dj, rfl, hij, hjb, hsj, hB, hU⟩ := hrel
                      by_cases hjp : j < b
                      · obtain ⟨G2, hG2⟩ : ∃ G : Nat → Int, ∀ t, G t = dj[t]! := ⟨fun t => dj[t]!, fun _ => rfl⟩
                        have hcw : ∀ t, t < n → wr.cell? ⟨g, off + t, none⟩ = some (.int .u64 (G2 t)) := fun t ht => by rw [hG2]; exact hB.cells t (by rw [hsj]; exact ht)
                        have hfw : ∀ t, t < n → wr.frozen? ⟨g, off + t, none⟩ = false := fun t _ => hB.free t
                        have HB := Lib.hid hB
                        have HG2 := Lib.hid hG2
                        have HU := Lib.hid hU
                        have HSJ := Lib.hid hsj
                        have hjn : j < n := by omega
                        have hjm : j - 1 < n := by omega
                        have hj1' : 1 ≤ j := by omega
                        clear hB hG2 hU hsj
                        go_wp2_with fail
                        go_quiet (first | (go_at_call 49; refine Calls.quiet_of_same (less_u _ _ _)))
                        cases hl : ltInt (G2 j) (G2 (j - 1))
                        · have HF : Hid (dj = d3) := by show _ = _; rw [← HU.out, up_stop dj b j (.inr (by rw [← HG2.out, ← HG2.out]; exact hl))]
                          go_wp2_with fail
                          go_roundw
                          case rel => exact ⟨i, k + 1, _, rfl, by go_num, by omega, by omega, by omega, HSJ.out, HB.out.drewN _, by rw [HSS.out, HF.out, ← HF0.out]; exact HO.out⟩
                          case measure => simp [intOf]; omega
                        · have HGO : Hid (Sort.shiftUp ltInt b (j + 1) (swp dj j (j - 1)) = d3) := by show _ = _; rw [← up_go dj b j hjp (by rw [← HG2.out, ← HG2.out]; exact hl)]; exact HU.out
                          go_wp2_with fail
                          have HS2 : Hid (Ar w0 (((((wr.drewN nq).setCell ⟨g, off + j, none⟩ (.int .u64 (G2 (j - 1)))).setCell ⟨g, off + (j - 1), none⟩ (.int .u64 (G2 j))).drew)) g off ty N (swp dj j (j - 1))) := by
                            show Ar _ _ _ _ _ _ _
                            rw [HG2.out, HG2.out]; exact ((HB.out.drewN nq).swap j (j - 1) (by rw [HSJ.out]; exact hjn) (by rw [HSJ.out]; exact hjm)).drew
                          go_region
                          all_goals clear hcw hfw
                          go_wp2_with fail
                          go_roundw
                          case rel => exact ⟨j + 1, swp dj j (j - 1), by go_num, by omega, by omega, by rw [size_swp]; exact HSJ.out, HS2.out, HGO.out⟩
                          case measure => simp [intOf]; omega
                      · have HF : Hid (dj = d3) := by show _ = _; rw [← hU, up_stop dj b j (.inl hjp)]
                        have HB := Lib.hid hB
                        have HSJ := Lib.hid hsj
                        clear hB hU hsj
                        go_wp2_with fail
                        go_roundw
                        case rel => exact ⟨i, k + 1, _, rfl, by go_num, by omega, by omega, by omega, HSJ.out, HB.out, by rw [HSS.out, HF.out, ← HF0.out]; exact HO.out⟩
                        case measure => simp [intOf]; omega
                  · rw [if_neg h2] at hd3
                    have h2i : ¬ (2 : Int) ≤ (b : Int) - (i : Int) := by omega
                    have HD3 := Lib.hid hd3
                    clear hd3
                    go_wp2_with fail
                    go_roundw
                    case rel => exact ⟨i, k + 1, _, rfl, by go_num, by omega, by omega, by omega, HZ2.out, HA2.out, by rw [HSS.out, HD3.out, ← HF0.out]; exact HO.out⟩
                    case measure => simp [intOf]; omega
          · have ht := HT.out
            rw [Bool.and_eq_true] at ht
            have hij : i < b := of_decide_eq_true ht.1
            have hgo := ss_go dk b i hij (by have := ht.2; rw [HG.out, HG.out] at this; simpa using this)
            have HGO := Lib.hid hgo
            clear hgo ht HT
            go_wp2_with fail
            go_roundw
            case rel => exact ⟨i + 1, by go_num, by omega, by omega, HA'.out, by rw [← HGO.out]; exact HU.out⟩
            case measure => simp [intOf]; omega
    · have hk6 : k = 5 := by omega
      subst hk6
      have HF : Hid ((dk, false) = Sort.partialIns ltInt a b 5 (a + 1) d) := hO
      have HA := Lib.hid hA
      clear hA hO hsk
      go_wp2_with fail
      go_ret
      rw [HQ.out, ← HF.out]
      exact ⟨rfl, HA.out⟩

end Go.Proofs.Ytbnmildjamjjmaa
