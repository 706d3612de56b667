/-
  The library's sort of uint64, its walks: siftDownOrdered, heapSortOrdered. Conditions: at most 100000 numbers.
-/
import Derived.Test.YtbnmildjamjjmaaSortA
namespace Go.Proofs.Ytbnmildjamjjmaa
open Go.RowKit
open Go.Sort (swp ltInt size_swp)

theorem sd_stop (hi first r : Nat) (d : Array Int) (h : hi ≤ 2 * r + 1) : Sort.siftDown ltInt hi first r d = d := by
  rw [Sort.siftDown, dif_pos h]
theorem sd_size (hi first : Nat) : ∀ (m r : Nat) (d : Array Int), hi - r ≤ m → (Sort.siftDown ltInt hi first r d).size = d.size := by
  intro m
  induction m with
  | zero => intro r d h; rw [sd_stop _ _ _ _ (by omega)]
  | succ m ih =>
    intro r d h
    by_cases hst : 2 * r + 1 < hi
    · rw [Sort.siftDown, dif_neg (by omega)]
      split
      · split
        · rfl
        · split
          · rw [ih _ _ (by omega), size_swp]
          · rfl
      · split
        · rfl
        · rw [ih _ _ (by omega), size_swp]
    · rw [sd_stop _ _ _ _ (by omega)]
theorem sd_step (hi first r c : Nat) (d : Array Int) (h : 2 * r + 1 < hi) (hc : (c = 2 * r + 2 ∧ c < hi ∧ ltInt d[first + (2 * r + 1)]! d[first + (2 * r + 1) + 1]! = true) ∨ (c = 2 * r + 1 ∧ (hi ≤ 2 * r + 2 ∨ ltInt d[first + (2 * r + 1)]! d[first + (2 * r + 1) + 1]! = false))) :
    Sort.siftDown ltInt hi first r d = if ltInt d[first + r]! d[first + c]! = true then Sort.siftDown ltInt hi first c (swp d (first + r) (first + c)) else d := by
  rw [Sort.siftDown, dif_neg (by omega)]
  rcases hc with ⟨rfl, h1, h2⟩ | ⟨rfl, h1⟩
  · rw [if_pos (by rw [h2, decide_eq_true (by omega)]; rfl)]
    cases h3 : ltInt d[first + r]! d[first + (2 * r + 2)]!
    · simp
    · simp [h1]
  · rw [if_neg (by
      rcases h1 with h1 | h1
      · rw [decide_eq_false (by omega)]; simp
      · rw [h1]; simp)]
    cases h3 : ltInt d[first + r]! d[first + (2 * r + 1)]! <;> simp

set_option maxHeartbeats 4000000 in
theorem sift_any {w0 w : World} {g off : Nat} {ty : TypeId} {N : Nat} {d : Array Int} (h : Ar w0 w g off ty N d) (cap lo hi first : Nat) (hlo : lo ≤ hi) (hb : first + hi ≤ d.size) (hsz : d.size ≤ 100000) :
    Calls Try.prog 54 #[.slice (some ⟨g, off, none⟩) d.size cap, .int .i64 lo, .int .i64 hi, .int .i64 first] w fun e w' => e = .returned (.tuple #[]) ∧ Ar w0 w' g off ty N (Sort.siftDown ltInt hi first lo d) := by
  have H := Lib.hid h
  clear h
  obtain ⟨n, hn⟩ : ∃ n, d.size = n := ⟨_, rfl⟩
  have HN := Lib.hid hn
  rw [hn] at hb hsz ⊢
  clear hn
  go_enter Try.func54, Try.ntmps54
  go_wp2
  go_loopw [8] (fun vi wr => ∃ (r : Nat) (dk : Array Int), vi = .int .i64 r ∧ r ≤ hi ∧ dk.size = n ∧ Ar w0 wr g off ty N dk ∧ Sort.siftDown ltInt hi first r dk = Sort.siftDown ltInt hi first lo d) (fun vi _ => hi - (intOf vi).toNat)
  case atStart => exact ⟨lo, d, rfl, hlo, HN.out, H.out, rfl⟩
  case round =>
    obtain ⟨r, dk, rfl, hr, hsk, hA, hO⟩ := hrel
    obtain ⟨c1, hc1⟩ : ∃ c1, c1 = 2 * r + 1 := ⟨_, rfl⟩
    have e1 : 2 * (r : Int) + 1 = (c1 : Int) := by omega
    by_cases hst : c1 < hi
    · obtain ⟨G, hG⟩ : ∃ G : Nat → Int, ∀ t, G t = dk[t]! := ⟨fun t => dk[t]!, fun _ => rfl⟩
      have hcw : ∀ t, t < n → wr.cell? ⟨g, off + t, none⟩ = some (.int .u64 (G t)) := fun t ht => by rw [hG]; exact hA.cells t (by rw [hsk]; exact ht)
      have hfw : ∀ t, t < n → wr.frozen? ⟨g, off + t, none⟩ = false := fun t _ => hA.free t
      have HA := Lib.hid hA
      have HG := Lib.hid hG
      have HO := Lib.hid hO
      have HSK := Lib.hid hsk
      clear hA hG hO hsk
      have three : (c1 + 1 < hi ∧ ltInt (G (first + c1)) (G (first + c1 + 1)) = true) ∨ (c1 + 1 < hi ∧ ltInt (G (first + c1)) (G (first + c1 + 1)) = false) ∨ ¬ c1 + 1 < hi := by
        by_cases hg : c1 + 1 < hi
        · cases hl : ltInt (G (first + c1)) (G (first + c1 + 1))
          · exact .inr (.inl ⟨hg, rfl⟩)
          · exact .inl ⟨hg, rfl⟩
        · exact .inr (.inr hg)
      rcases three with ⟨hg, hl⟩ | ⟨hg, hl⟩ | hg
      case' inl =>
        have HST := Lib.hid (sd_step hi first r (c1 + 1) dk (by omega) (.inl ⟨by omega, hg, by rw [← hc1, ← HG.out, ← HG.out]; exact hl⟩))
        obtain ⟨c, hc⟩ : ∃ c, c = c1 + 1 := ⟨_, rfl⟩
        rw [← hc] at HST
        have e2 : (c1 : Int) + 1 = (c : Int) := by omega
        have hch : c < hi := by omega
        have hrc : r < c := by omega
        have b2 : (first : Int) + (c1 : Int) + 1 < (n : Int) := by omega
        have b4 : 0 ≤ (first : Int) + (c1 : Int) + 1 := by omega
        have b5 : decide ((c1 : Int) + 1 < (hi : Int)) = true := decide_eq_true (by omega)
        clear hc hc1
        have E2 := Lib.hid e2
        clear e2
        have b1 : (first : Int) + (c1 : Int) < (n : Int) := by omega
        have b3 : 0 ≤ (first : Int) + (c1 : Int) := by omega
        have s1 : IntKind.i64.wrap ((c1 : Int) + 1) = (c1 : Int) + 1 := IntWalk.i64_in _ (by omega)
        have s2 : IntKind.i64.wrap ((first : Int) + (c1 : Int)) = (first : Int) + (c1 : Int) := IntWalk.i64_in _ (by omega)
        have s3 : IntKind.i64.wrap ((first : Int) + (c1 : Int) + 1) = (first : Int) + (c1 : Int) + 1 := IntWalk.i64_in _ (by omega)
        have s4 : ((first : Int) + (c1 : Int)).toNat = first + c1 := by omega
        have s5 : ((first : Int) + (c1 : Int) + 1).toNat = first + c1 + 1 := by omega
        go_wp2
        go_quiet (first | (go_at_call 49; refine Calls.quiet_of_same (less_u _ _ _)))
        clear s1 s2 s3 s4 s5
        go_wp2
        rw [E2.out]
      case' inr.inl =>
        have HST := Lib.hid (sd_step hi first r c1 dk (by omega) (.inr ⟨hc1, .inr (by rw [← hc1, ← HG.out, ← HG.out]; exact hl)⟩))
        have hch : c1 < hi := hst
        have hrc : r < c1 := by omega
        have b2 : (first : Int) + (c1 : Int) + 1 < (n : Int) := by omega
        have b4 : 0 ≤ (first : Int) + (c1 : Int) + 1 := by omega
        have b5 : decide ((c1 : Int) + 1 < (hi : Int)) = true := decide_eq_true (by omega)
        clear hc1
        have b1 : (first : Int) + (c1 : Int) < (n : Int) := by omega
        have b3 : 0 ≤ (first : Int) + (c1 : Int) := by omega
        have s1 : IntKind.i64.wrap ((c1 : Int) + 1) = (c1 : Int) + 1 := IntWalk.i64_in _ (by omega)
        have s2 : IntKind.i64.wrap ((first : Int) + (c1 : Int)) = (first : Int) + (c1 : Int) := IntWalk.i64_in _ (by omega)
        have s3 : IntKind.i64.wrap ((first : Int) + (c1 : Int) + 1) = (first : Int) + (c1 : Int) + 1 := IntWalk.i64_in _ (by omega)
        have s4 : ((first : Int) + (c1 : Int)).toNat = first + c1 := by omega
        have s5 : ((first : Int) + (c1 : Int) + 1).toNat = first + c1 + 1 := by omega
        go_wp2
        go_quiet (first | (go_at_call 49; refine Calls.quiet_of_same (less_u _ _ _)))
        clear s1 s2 s3 s4 s5
        go_wp2
        obtain ⟨c, hc⟩ : ∃ c, c = c1 := ⟨_, rfl⟩
        subst hc
      case' inr.inr =>
        have HST := Lib.hid (sd_step hi first r c1 dk (by omega) (.inr ⟨hc1, .inl (by omega)⟩))
        have hch : c1 < hi := hst
        have hrc : r < c1 := by omega
        have b5 : decide ((c1 : Int) + 1 < (hi : Int)) = false := decide_eq_false (by omega)
        clear hc1
        have b1 : (first : Int) + (c1 : Int) < (n : Int) := by omega
        have b3 : 0 ≤ (first : Int) + (c1 : Int) := by omega
        have s1 : IntKind.i64.wrap ((c1 : Int) + 1) = (c1 : Int) + 1 := IntWalk.i64_in _ (by omega)
        have s2 : IntKind.i64.wrap ((first : Int) + (c1 : Int)) = (first : Int) + (c1 : Int) := IntWalk.i64_in _ (by omega)
        have s3 : IntKind.i64.wrap ((first : Int) + (c1 : Int) + 1) = (first : Int) + (c1 : Int) + 1 := IntWalk.i64_in _ (by omega)
        have s4 : ((first : Int) + (c1 : Int)).toNat = first + c1 := by omega
        have s5 : ((first : Int) + (c1 : Int) + 1).toNat = first + c1 + 1 := by omega
        go_wp2
        go_quiet (first | (go_at_call 49; refine Calls.quiet_of_same (less_u _ _ _)))
        clear s1 s2 s3 s4 s5
        go_wp2
        obtain ⟨c, hc⟩ : ∃ c, c = c1 := ⟨_, rfl⟩
        subst hc
      all_goals
        obtain ⟨w5, hw5⟩ : ∃ w5, w5 = wr.drewN nq := ⟨_, rfl⟩
        rw [← hw5]
        have HA5 : Hid (Ar w0 w5 g off ty N dk) := by rw [hw5]; exact HA.out.drewN _
        have hcw5 : ∀ t, t < n → w5.cell? ⟨g, off + t, none⟩ = some (.int .u64 (G t)) := fun t ht => by rw [hw5]; exact hcw t ht
        have hfw5 : ∀ t, t < n → w5.frozen? ⟨g, off + t, none⟩ = false := fun t ht => by rw [hw5]; exact hfw t ht
        clear hw5 hcw hfw hst b5
        have a1 : (first : Int) + (r : Int) < (n : Int) := by omega
        have a2 : (first : Int) + (c : Int) < (n : Int) := by omega
        have a3 : 0 ≤ (first : Int) + (r : Int) := by omega
        have a4 : 0 ≤ (first : Int) + (c : Int) := by omega
        have t1 : IntKind.i64.wrap ((first : Int) + (r : Int)) = (first : Int) + (r : Int) := IntWalk.i64_in _ (by omega)
        have t2 : IntKind.i64.wrap ((first : Int) + (c : Int)) = (first : Int) + (c : Int) := IntWalk.i64_in _ (by omega)
        have t3 : ((first : Int) + (r : Int)).toNat = first + r := by omega
        have t4 : ((first : Int) + (c : Int)).toNat = first + c := by omega
        go_quiet (first | (go_at_call 49; refine Calls.quiet_of_same (less_u _ _ _)))
        clear t1 t2 t3 t4
        cases hl2 : ltInt (G (first + r)) (G (first + c))
        · go_wp2
          refine bodyPost_ret (results_none rfl _ _ _) rfl ⟨rfl, ?_⟩
          rw [← HO.out, HST.out, if_neg (by rw [← HG.out, ← HG.out, hl2]; simp)]
          exact HA5.out.drewN _
        · go_wp2
          have HA6 := Lib.hid (HA5.out.drewN nq)
          obtain ⟨w6, hw6⟩ : ∃ w6, w6 = w5.drewN nq := ⟨_, rfl⟩
          rw [← hw6] at HA6 ⊢
          have hcw6 : ∀ t, t < n → w6.cell? ⟨g, off + t, none⟩ = some (.int .u64 (G t)) := fun t ht => by rw [hw6]; exact hcw5 t ht
          have hfw6 : ∀ t, t < n → w6.frozen? ⟨g, off + t, none⟩ = false := fun t ht => by rw [hw6]; exact hfw5 t ht
          clear hw6 hcw5 hfw5 HA5
          have t1 : IntKind.i64.wrap ((first : Int) + (r : Int)) = (first : Int) + (r : Int) := IntWalk.i64_in _ (by omega)
          have t2 : IntKind.i64.wrap ((first : Int) + (c : Int)) = (first : Int) + (c : Int) := IntWalk.i64_in _ (by omega)
          have t3 : ((first : Int) + (r : Int)).toNat = first + r := by omega
          have t4 : ((first : Int) + (c : Int)).toNat = first + c := by omega
          go_region
          all_goals clear t1 t2 t3 t4
          all_goals go_wp2
          go_roundw
          case rel =>
            refine ⟨c, swp dk (first + r) (first + c), rfl, by omega, by rw [size_swp]; exact HSK.out, ?_, ?_⟩
            · rw [HG.out, HG.out]
              exact HA6.out.drew.swap (first + r) (first + c) (by rw [HSK.out]; omega) (by rw [HSK.out]; omega)
            · rw [← HO.out, HST.out, if_pos (by rw [← HG.out, ← HG.out]; exact hl2)]
          case measure => simp [intOf]; omega
    · have HST := Lib.hid (sd_stop hi first r dk (by omega))
      have HA := Lib.hid hA
      have HO := Lib.hid hO
      clear hA hO hsk hc1
      go_wp2
      go_end0
      exact ⟨rfl, by rw [← HO.out, HST.out]; exact HA.out⟩

theorem hb_go (hi first k : Nat) (d : Array Int) : Sort.heapBuild ltInt hi first (k + 1) d = Sort.heapBuild ltInt hi first k (Sort.siftDown ltInt hi first k d) := rfl
theorem hp_go (first k : Nat) (d : Array Int) : Sort.heapPop ltInt first (k + 1) d = Sort.heapPop ltInt first k (Sort.siftDown ltInt k first 0 (swp d first (first + k))) := rfl

set_option maxHeartbeats 4000000 in
theorem heap_any {w0 w : World} {g off : Nat} {ty : TypeId} {N : Nat} {d : Array Int} (h : Ar w0 w g off ty N d) (cap a b : Nat) (hab : a < b) (hb : b ≤ d.size) (hsz : d.size ≤ 100000) :
    Calls Try.prog 44 #[.slice (some ⟨g, off, none⟩) d.size cap, .int .i64 a, .int .i64 b] w fun e w' => e = .returned (.tuple #[]) ∧ Ar w0 w' g off ty N (Sort.heapSort ltInt d a b) := by
  have H := Lib.hid h
  clear h
  obtain ⟨n, hn⟩ : ∃ n, d.size = n := ⟨_, rfl⟩
  have HN := Lib.hid hn
  rw [hn] at hb hsz ⊢
  clear hn
  obtain ⟨hi, hhi⟩ : ∃ hi, hi = b - a := ⟨_, rfl⟩
  obtain ⟨m, hm⟩ : ∃ m, m = (hi - 1) / 2 := ⟨_, rfl⟩
  have HQ : Hid (Sort.heapSort ltInt d a b = Sort.heapPop ltInt a hi (Sort.heapBuild ltInt hi a (m + 1) d)) := by
    show _ = _
    unfold Sort.heapSort
    rw [← hhi, ← hm]
  have e1 : (b : Int) - (a : Int) = (hi : Int) := by omega
  have e2 : ((hi : Int) - 1) / 2 = (m : Int) := by omega
  have h1 : 1 ≤ hi := by omega
  have h2 : a + hi ≤ n := by omega
  have h3 : m < hi := by omega
  have h4 : hi ≤ 100000 := by omega
  clear hhi hm
  go_enter Try.func44, Try.ntmps44
  go_wp2_with fail
  have E2 := Lib.hid e2
  clear e1 e2 hab hb
  go_loopw [9] (fun vi wr => ∃ (k : Nat) (dk : Array Int), vi = .int .i64 ((k : Int) - 1) ∧ k ≤ m + 1 ∧ dk.size = n ∧ Ar w0 wr g off ty N dk ∧ Sort.heapBuild ltInt hi a k dk = Sort.heapBuild ltInt hi a (m + 1) d) (fun vi _ => (intOf vi + 1).toNat)
  case atStart => exact ⟨m + 1, d, by congr 1; have := E2.out; omega, Nat.le_refl _, HN.out, H.out, rfl⟩
  case round =>
    obtain ⟨k, dk, rfl, hk, hsk, hA, hO⟩ := hrel
    cases k with
    | zero =>
      rw [show ((0 : Nat) : Int) - 1 = -1 from rfl]
      have HO : Hid (dk = Sort.heapBuild ltInt hi a (m + 1) d) := hO
      have HA := Lib.hid hA
      have HSK := Lib.hid hsk
      clear hO hA hsk hk
      obtain ⟨wq, hwq⟩ : ∃ wq, wq = wr := ⟨_, rfl⟩
      rw [← hwq] at HA ⊢
      clear hwq
      go_wp2_with fail
      go_loopw [10] (fun vi wr => ∃ (k : Nat) (dj : Array Int), vi = .int .i64 ((k : Int) - 1) ∧ k ≤ hi ∧ dj.size = n ∧ Ar w0 wr g off ty N dj ∧ Sort.heapPop ltInt a k dj = Sort.heapPop ltInt a hi dk) (fun vi _ => (intOf vi + 1).toNat)
      case atStart => exact ⟨hi, dk, rfl, Nat.le_refl _, HSK.out, HA.out, rfl⟩
      case round =>
        obtain ⟨k, dj, rfl, hk, hsj, hB, hP⟩ := hrel
        cases k with
        | zero =>
          rw [show ((0 : Nat) : Int) - 1 = -1 from rfl]
          have HP : Hid (dj = Sort.heapPop ltInt a hi dk) := hP
          have HB := Lib.hid hB
          clear hP hB hsj hk
          go_wp2_with fail
          go_end0
          exact ⟨rfl, by rw [HQ.out, ← HO.out, ← HP.out]; exact HB.out⟩
        | succ k =>
          rw [show ((k + 1 : Nat) : Int) - 1 = (k : Int) from by omega]
          obtain ⟨G, hG⟩ : ∃ G : Nat → Int, ∀ t, G t = dj[t]! := ⟨fun t => dj[t]!, fun _ => rfl⟩
          have hcw : ∀ t, t < n → wr.cell? ⟨g, off + t, none⟩ = some (.int .u64 (G t)) := fun t ht => by rw [hG]; exact hB.cells t (by rw [hsj]; exact ht)
          have hfw : ∀ t, t < n → wr.frozen? ⟨g, off + t, none⟩ = false := fun t _ => hB.free t
          have HP : Hid (Sort.heapPop ltInt a k (Sort.siftDown ltInt k a 0 (swp dj a (a + k))) = Sort.heapPop ltInt a hi dk) := hP
          have hsw : Ar w0 (((wr.setCell ⟨g, off + a, none⟩ (.int .u64 (G (a + k)))).setCell ⟨g, off + (a + k), none⟩ (.int .u64 (G a))).drew) g off ty N (swp dj a (a + k)) := by rw [hG, hG]; exact (hB.swap a (a + k) (by omega) (by omega)).drew
          have HSW := Lib.hid hsw
          have hs2 : (swp dj a (a + k)).size = n := by rw [size_swp]; exact hsj
          have HS2 := Lib.hid hs2
          have hsi := Lib.hid (fun (wx : World) (hx : Ar w0 wx g off ty N (swp dj a (a + k))) => hs2 ▸ sift_any hx cap 0 k a (by omega) (by rw [hs2]; omega) (by rw [hs2]; exact hsz))
          have hss : Hid ((Sort.siftDown ltInt k a 0 (swp dj a (a + k))).size = n) := (sd_size k a k 0 _ (by omega)).trans hs2
          have b1 : (a : Int) + (k : Int) < (n : Int) := by omega
          have b2 : 0 ≤ (a : Int) + (k : Int) := by omega
          have b3 : (a : Int) < (n : Int) := by omega
          have b4 : (k : Int) ≤ 100000 := by omega
          obtain ⟨v', hv'⟩ := cell?_setCell_some (w := wr) (p := ⟨g, off + a, none⟩) (x := .int .u64 (G (a + k))) (q := ⟨g, off + (a + k), none⟩) (v := .int .u64 (G (a + k))) (hcw _ (by omega))
          clear hB hG hP hsj hsw hs2
          have t1 : IntKind.i64.wrap ((a : Int) + (k : Int)) = (a : Int) + (k : Int) := IntWalk.i64_in _ (by omega)
          have t3 : ((a : Int) + (k : Int)).toNat = a + k := by omega
          go_wp2_with fail
          go_region
          all_goals clear t1 t3
          go_wp2_with fail
          refine (hsi.out _ HSW.out).mono ?_
          rintro e w1 ⟨rfl, hA1⟩
          have HA1 := Lib.hid hA1
          clear hA1 hv'
          go_wp2_with fail
          go_roundw
          case rel => exact ⟨k, _, rfl, by omega, hss.out, HA1.out, HP.out⟩
          case measure => simp [intOf]
    | succ k =>
      rw [show ((k + 1 : Nat) : Int) - 1 = (k : Int) from by omega]
      have HO : Hid (Sort.heapBuild ltInt hi a k (Sort.siftDown ltInt hi a k dk) = Sort.heapBuild ltInt hi a (m + 1) d) := hO
      have hsi := Lib.hid (hsk ▸ sift_any hA cap k hi a (by omega) (by rw [hsk]; exact h2) (by rw [hsk]; exact hsz))
      have hss : Hid ((Sort.siftDown ltInt hi a k dk).size = n) := (sd_size hi a hi k dk (by omega)).trans hsk
      have b4 : (k : Int) ≤ 100000 := by omega
      clear hO hA hsk
      go_wp2_with fail
      refine hsi.out.mono ?_
      rintro e w1 ⟨rfl, hA1⟩
      have HA1 := Lib.hid hA1
      clear hA1
      go_wp2_with fail
      go_roundw
      case rel => exact ⟨k, _, rfl, by omega, hss.out, HA1.out, HO.out⟩
      case measure => simp [intOf]

end Go.Proofs.Ytbnmildjamjjmaa
