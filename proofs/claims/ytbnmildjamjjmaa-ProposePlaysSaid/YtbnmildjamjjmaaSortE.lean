/-
  The library's sort of uint64, its walks: reverseRangeOrdered; choosePivotOrdered, as far as which index it may tell. Conditions: at most 100000 numbers.
-/
import Derived.Test.YtbnmildjamjjmaaSortA
import Derived.Deep.DeepCutAuto
namespace Go.Proofs.Ytbnmildjamjjmaa
open Go.RowKit
open Go.Sort (swp ltInt size_swp)

theorem rl_go (i j : Nat) (d : Array Int) (h : i < j) : Sort.reverseLoop i j d = Sort.reverseLoop (i + 1) (j - 1) (swp d i j) := by rw [Sort.reverseLoop, if_pos h]
theorem rl_stop (i j : Nat) (d : Array Int) (h : ¬ i < j) : Sort.reverseLoop i j d = d := by rw [Sort.reverseLoop, if_neg h]

set_option maxHeartbeats 4000000 in
theorem rev_any {w0 w : World} {g off : Nat} {ty : TypeId} {N : Nat} {d : Array Int} (h : Ar w0 w g off ty N d) (cap a b : Nat) (hab : a < b) (hb : b ≤ d.size) (hsz : d.size ≤ 100000) :
    Calls Try.prog 47 #[.slice (some ⟨g, off, none⟩) d.size cap, .int .i64 a, .int .i64 b] w fun e w' => e = .returned (.tuple #[]) ∧ Ar w0 w' g off ty N (Sort.reverseRange d a b) := by
  have H := Lib.hid h
  clear h
  obtain ⟨n, hn⟩ : ∃ n, d.size = n := ⟨_, rfl⟩
  have HN := Lib.hid hn
  rw [hn] at hb hsz ⊢
  clear hn
  obtain ⟨j0, hj0⟩ : ∃ j0, b - 1 = j0 := ⟨_, rfl⟩
  have HQ : Hid (Sort.reverseRange d a b = Sort.reverseLoop a j0 d) := by show _ = _; unfold Sort.reverseRange; rw [hj0]
  have e1 : (b : Int) - 1 = (j0 : Int) := by omega
  have hjn : j0 < n := by omega
  have han : a < n := by omega
  clear hj0
  go_enter Try.func47, Try.ntmps47
  go_wp2_with fail
  clear e1
  go_loopw [6, 7] (fun vi vj wr => ∃ (i j : Nat) (dk : Array Int), vi = .int .i64 i ∧ vj = .int .i64 j ∧ i ≤ n ∧ j < n ∧ dk.size = n ∧ Ar w0 wr g off ty N dk ∧ Sort.reverseLoop i j dk = Sort.reverseLoop a j0 d) (fun vi vj _ => (intOf vj).toNat - (intOf vi).toNat)
  case atStart => exact ⟨a, j0, d, rfl, rfl, by omega, hjn, HN.out, H.out, rfl⟩
  case round =>
    obtain ⟨i, j, dk, rfl, rfl, hin, hjn2, hsk, hA, hO⟩ := hrel
    by_cases hlt : i < j
    · obtain ⟨G, hG⟩ : ∃ G : Nat → Int, ∀ t, G t = dk[t]! := ⟨fun t => dk[t]!, fun _ => rfl⟩
      have hcw : ∀ t, t < n → wr.cell? ⟨g, off + t, none⟩ = some (.int .u64 (G t)) := fun t ht => by rw [hG]; exact hA.cells t (by rw [hsk]; exact ht)
      have hfw : ∀ t, t < n → wr.frozen? ⟨g, off + t, none⟩ = false := fun t _ => hA.free t
      have hi2 : i < n := by omega
      obtain ⟨v2, hv2⟩ := cell?_setCell_some (w := wr) (p := ⟨g, off + i, none⟩) (x := .int .u64 (G j)) (q := ⟨g, off + j, none⟩) (v := .int .u64 (G j)) (hcw _ hjn2)
      have HS : Hid (Ar w0 ((((wr.setCell ⟨g, off + i, none⟩ (.int .u64 (G j))).setCell ⟨g, off + j, none⟩ (.int .u64 (G i))).drew)) g off ty N (swp dk i j)) := by
        show Ar _ _ _ _ _ _ _
        rw [hG, hG]; exact (hA.swap i j (by rw [hsk]; exact hi2) (by rw [hsk]; exact hjn2)).drew
      have HZ : Hid ((swp dk i j).size = n) := (size_swp dk i j).trans hsk
      have HO : Hid (Sort.reverseLoop (i + 1) (j - 1) (swp dk i j) = Sort.reverseLoop a j0 d) := by show _ = _; rw [← rl_go i j dk hlt]; exact hO
      clear hA hG hO hsk
      go_wp2_with fail
      go_region
      all_goals clear hv2 hcw hfw
      go_wp2_with fail
      go_roundw
      case rel => exact ⟨i + 1, j - 1, swp dk i j, by go_num, by congr 1; omega, by omega, by omega, HZ.out, HS.out, HO.out⟩
      case measure => simp [intOf]; omega
    · have HF : Hid (dk = Sort.reverseLoop a j0 d) := by show _ = _; rw [← hO, rl_stop i j dk hlt]
      have HA := Lib.hid hA
      clear hA hO hsk
      go_wp2_with fail
      go_end0
      exact ⟨rfl, by rw [HQ.out, ← HF.out]; exact HA.out⟩

/-- What a step of the pivot's choice leaves: the row, and a count of swaps in a block of its own. -/
structure Pv (w0 wr : World) (g off : Nat) (ty : TypeId) (N : Nat) (d : Array Int) (gs : Nat) (s : Int) : Prop where
  row : Ar w0 wr g off ty N d
  cnt : Blk wr gs 3 #[.int .i64 s]
  lo : w0.heap.size ≤ gs
  ne : g ≠ gs

def PairOf (x y a b : Nat) : Prop := (x = a ∧ y = b) ∨ (x = b ∧ y = a)

set_option maxHeartbeats 2000000 in
theorem order2_any {w0 w : World} {g off : Nat} {ty : TypeId} {N : Nat} {d : Array Int} {gs : Nat} {s : Int} (h : Pv w0 w g off ty N d gs s) (cap a b : Nat) (ha : a < d.size) (hb : b < d.size) (s0 : 0 ≤ s) (s1 : s ≤ 100) :
    Calls Try.prog 60 #[.slice (some ⟨g, off, none⟩) d.size cap, .int .i64 a, .int .i64 b, .pointer (some ⟨gs, 0, none⟩)] w fun e w' => ∃ (x y : Nat) (s' : Int), e = .returned (.tuple #[.int .i64 x, .int .i64 y]) ∧ PairOf x y a b ∧ s ≤ s' ∧ s' ≤ s + 1 ∧ Pv w0 w' g off ty N d gs s' := by
  obtain ⟨n, hn⟩ : ∃ n, d.size = n := ⟨_, rfl⟩
  obtain ⟨G, hG⟩ : ∃ G : Nat → Int, ∀ t, G t = d[t]! := ⟨fun t => d[t]!, fun _ => rfl⟩
  have hcw : ∀ t, t < n → w.cell? ⟨g, off + t, none⟩ = some (.int .u64 (G t)) := fun t ht => by rw [hG]; exact h.row.cells t (by rw [hn]; exact ht)
  have H := Lib.hid h
  rw [hn] at ha hb ⊢
  have ha' : (a : Int) < (n : Int) := by omega
  have hb' : (b : Int) < (n : Int) := by omega
  clear h hn hG
  go_enter Try.func60, Try.ntmps60
  go_wp2_with fail
  go_quiet (first | (go_at_call 49; refine Calls.quiet_of_same (less_u _ _ _)))
  cases hl : ltInt (G b) (G a)
  · go_wp2_with fail
    go_ret2
    exact ⟨a, b, s, rfl, .inl ⟨rfl, rfl⟩, by omega, by omega, ⟨H.out.row.drewN _, H.out.cnt, H.out.lo, H.out.ne⟩⟩
  · have c0 : w.cell? ⟨gs, 0, none⟩ = some (.int .i64 s) := H.out.cnt.cell 0
    have f0 : w.frozen? ⟨gs, 0, none⟩ = false := H.out.cnt.frozen 0
    go_wp2_with fail
    go_ret2
    refine ⟨b, a, s + 1, rfl, .inr ⟨rfl, rfl⟩, by omega, by omega, ⟨(H.out.row.drewN _).far (p := ⟨gs, 0, none⟩) H.out.lo H.out.ne _, ?_, H.out.lo, H.out.ne⟩⟩
    have := Blk.set_ (w := w.drewN nq) (g := gs) (t := 3) (cs := #[.int .i64 s]) H.out.cnt 0 (.int .i64 (s + 1))
    simpa using this

theorem median_any {w0 w : World} {g off : Nat} {ty : TypeId} {N : Nat} {d : Array Int} {gs : Nat} {s : Int} (h : Pv w0 w g off ty N d gs s) (cap a b c : Nat) (ha : a < d.size) (hb : b < d.size) (hc : c < d.size) (s0 : 0 ≤ s) (s1 : s ≤ 90) :
    Calls Try.prog 58 #[.slice (some ⟨g, off, none⟩) d.size cap, .int .i64 a, .int .i64 b, .int .i64 c, .pointer (some ⟨gs, 0, none⟩)] w fun e w' => ∃ (x : Nat) (s' : Int), e = .returned (.int .i64 x) ∧ (x = a ∨ x = b ∨ x = c) ∧ s ≤ s' ∧ s' ≤ s + 3 ∧ Pv w0 w' g off ty N d gs s' := by
  have H := Lib.hid h
  clear h
  go_enter Try.func58, Try.ntmps58
  go_wp2_with fail
  refine (order2_any H.out cap a b ha hb s0 (by omega)).mono ?_
  rintro e w1 ⟨x1, y1, t1, rfl, hp1, l1, u1, hv1⟩
  have H1 := Lib.hid hv1
  have P1 := Lib.hid hp1
  have hy1 : y1 < d.size := by rcases hp1 with ⟨rfl, rfl⟩ | ⟨rfl, rfl⟩ <;> assumption
  have hx1 : x1 < d.size := by rcases hp1 with ⟨rfl, rfl⟩ | ⟨rfl, rfl⟩ <;> assumption
  clear hv1 hp1
  go_wp2_with fail
  refine (order2_any H1.out cap y1 c hy1 hc (by omega) (by omega)).mono ?_
  rintro e w2 ⟨x2, y2, t2, rfl, hp2, l2, u2, hv2⟩
  have H2 := Lib.hid hv2
  have P2 := Lib.hid hp2
  have hx2 : x2 < d.size := by rcases hp2 with ⟨rfl, rfl⟩ | ⟨rfl, rfl⟩ <;> assumption
  clear hv2 hp2
  go_wp2_with fail
  refine (order2_any H2.out cap x1 x2 hx1 hx2 (by omega) (by omega)).mono ?_
  rintro e w3 ⟨x3, y3, t3, rfl, hp3, l3, u3, hv3⟩
  have H3 := Lib.hid hv3
  have P3 := Lib.hid hp3
  clear hv3 hp3
  go_wp2_with fail
  go_ret
  refine ⟨y3, t3, rfl, ?_, by omega, by omega, H3.out⟩
  rcases P1.out with ⟨rfl, rfl⟩ | ⟨rfl, rfl⟩ <;> rcases P2.out with ⟨rfl, rfl⟩ | ⟨rfl, rfl⟩ <;> rcases P3.out with ⟨rfl, rfl⟩ | ⟨rfl, rfl⟩ <;> simp

theorem medAdj_any {w0 w : World} {g off : Nat} {ty : TypeId} {N : Nat} {d : Array Int} {gs : Nat} {s : Int} (h : Pv w0 w g off ty N d gs s) (cap a : Nat) (ha : a + 1 < d.size) (ha0 : 1 ≤ a) (s0 : 0 ≤ s) (s1 : s ≤ 90) (hsz : d.size ≤ 100000) :
    Calls Try.prog 57 #[.slice (some ⟨g, off, none⟩) d.size cap, .int .i64 a, .pointer (some ⟨gs, 0, none⟩)] w fun e w' => ∃ (x : Nat) (s' : Int), e = .returned (.int .i64 x) ∧ (x + 1 = a ∨ x = a ∨ x = a + 1) ∧ s ≤ s' ∧ s' ≤ s + 3 ∧ Pv w0 w' g off ty N d gs s' := by
  have HM := median_any h cap (a - 1) a (a + 1) (by omega) (by omega) ha s0 s1
  rw [show ((a - 1 : Nat) : Int) = (a : Int) - 1 from by omega, show ((a + 1 : Nat) : Int) = (a : Int) + 1 from by omega] at HM
  have HM := Lib.hid HM
  have hal : (a : Int) ≤ 100000 := by omega
  clear h
  go_enter Try.func57, Try.ntmps57
  go_wp2_with fail
  refine HM.out.mono ?_
  rintro e w1 ⟨x, t, rfl, hx, l1, u1, hv⟩
  have HX := Lib.hid hx
  have HV := Lib.hid hv
  clear hx hv
  go_wp2_with fail
  go_ret
  refine ⟨x, t, rfl, ?_, l1, u1, HV.out⟩
  have := HX.out
  omega

set_option maxHeartbeats 4000000 in
theorem pivot_any {w0 w : World} {g off : Nat} {ty : TypeId} {N : Nat} {d : Array Int} (h : Ar w0 w g off ty N d) (cap a b : Nat) (hab : a + 12 < b) (hb : b ≤ d.size) (hsz : d.size ≤ 100000) :
    Calls Try.prog 46 #[.slice (some ⟨g, off, none⟩) d.size cap, .int .i64 a, .int .i64 b] w fun e w' => ∃ (x : Nat) (hint : Int), e = .returned (.tuple #[.int .i64 x, .int .i64 hint]) ∧ a ≤ x ∧ x < b ∧ Ar w0 w' g off ty N d := by
  obtain ⟨cs, hbk, _⟩ := h.blk
  have hgl : g < w.heap.size := (Array.getElem?_eq_some_iff.1 hbk).1
  have H0 : Hid (Pv w0 (w.alloc (.cells #[.int .i64 0] 3)) g off ty N d w.heap.size 0) := ⟨h.alloc _, Blk.new _ _ _, h.upd.size, by omega⟩
  obtain ⟨l, hl⟩ : ∃ l, b - a = l := ⟨_, rfl⟩
  obtain ⟨q, hq⟩ : ∃ q, l / 4 = q := ⟨_, rfl⟩
  have e0 : (b : Int) - (a : Int) = (l : Int) := by omega
  have e1 : (l : Int) / 4 = (q : Int) := by omega
  have q0 : 3 ≤ q := by omega
  have q1 : a + 4 * q ≤ b := by omega
  have hbi : (b : Int) ≤ 100000 := by omega
  have hli : (l : Int) ≤ 100000 := by omega
  have hl8 : (8 : Int) ≤ (l : Int) := by omega
  have f1 : (a : Int) + (q : Int) = ((a + q : Nat) : Int) := by omega
  have f2 : (a : Int) + (q : Int) * 2 = ((a + q * 2 : Nat) : Int) := by omega
  have f3 : (a : Int) + (q : Int) * 3 = ((a + q * 3 : Nat) : Int) := by omega
  have F1 := Lib.hid f1
  have F2 := Lib.hid f2
  have F3 := Lib.hid f3
  clear f1 f2 f3 hbk hgl h
  by_cases h50 : 50 ≤ l
  · have k2 : (50 : Int) ≤ (l : Int) := by omega
    have q2 : 12 ≤ q := by omega
    clear hl hq
    go_enter Try.func46, Try.ntmps46
    go_wp2_with fail
    rw [F1.out, F2.out, F3.out]
    clear e0 e1
    refine (medAdj_any H0.out cap (a + q) (by omega) (by omega) (by omega) (by omega) hsz).mono ?_
    rintro e w1 ⟨m1, t1, rfl, hm1, l1, u1, hv⟩
    have H1 := Lib.hid hv
    clear hv
    go_wp2_with fail
    refine (medAdj_any H1.out cap (a + q * 2) (by omega) (by omega) (by omega) (by omega) hsz).mono ?_
    rintro e w2 ⟨m2, t2, rfl, hm2, l2, u2, hv⟩
    have H2 := Lib.hid hv
    clear hv
    go_wp2_with fail
    refine (medAdj_any H2.out cap (a + q * 3) (by omega) (by omega) (by omega) (by omega) hsz).mono ?_
    rintro e w3 ⟨m3, t3, rfl, hm3, l3, u3, hv⟩
    have H3 := Lib.hid hv
    clear hv
    go_wp2_with fail
    refine (median_any H3.out cap m1 m2 m3 (by omega) (by omega) (by omega) (by omega) (by omega)).mono ?_
    rintro e w5 ⟨m, t5, rfl, hm, l5, u5, hv⟩
    have HM := Lib.hid hm
    have c5 : w5.cell? ⟨w.heap.size, 0, none⟩ = some (.int .i64 t5) := hv.cnt.cell 0
    have H5 := Lib.hid hv
    clear hv hm
    by_cases z0 : t5 = 0
    · subst z0
      go_wp2_with fail
      go_ret2
      exact ⟨m, _, rfl, by have := HM.out; omega, by have := HM.out; omega, H5.out.row⟩
    · have z0' : (t5 == 0) = false := beq_eq_false_iff_ne.2 z0
      by_cases z1 : t5 = 12
      · subst z1
        go_wp2_with fail
        go_ret2
        exact ⟨m, _, rfl, by have := HM.out; omega, by have := HM.out; omega, H5.out.row⟩
      · have z1' : (t5 == 12) = false := beq_eq_false_iff_ne.2 z1
        go_wp2_with fail
        go_ret2
        exact ⟨m, _, rfl, by have := HM.out; omega, by have := HM.out; omega, H5.out.row⟩
  · have k2 : ¬ (50 : Int) ≤ (l : Int) := by omega
    clear hl hq
    go_enter Try.func46, Try.ntmps46
    go_wp2_with fail
    rw [F1.out, F2.out, F3.out]
    clear e0 e1
    refine (median_any H0.out cap (a + q) (a + q * 2) (a + q * 3) (by omega) (by omega) (by omega) (by omega) (by omega)).mono ?_
    rintro e w5 ⟨m, t5, rfl, hm, l5, u5, hv⟩
    have HM := Lib.hid hm
    have c5 : w5.cell? ⟨w.heap.size, 0, none⟩ = some (.int .i64 t5) := hv.cnt.cell 0
    have H5 := Lib.hid hv
    clear hv hm
    by_cases z0 : t5 = 0
    · subst z0
      go_wp2_with fail
      go_ret2
      exact ⟨m, _, rfl, by have := HM.out; omega, by have := HM.out; omega, H5.out.row⟩
    · have z0' : (t5 == 0) = false := beq_eq_false_iff_ne.2 z0
      by_cases z1 : t5 = 12
      · subst z1
        go_wp2_with fail
        go_ret2
        exact ⟨m, _, rfl, by have := HM.out; omega, by have := HM.out; omega, H5.out.row⟩
      · have z1' : (t5 == 12) = false := beq_eq_false_iff_ne.2 z1
        go_wp2_with fail
        go_ret2
        exact ⟨m, _, rfl, by have := HM.out; omega, by have := HM.out; omega, H5.out.row⟩

end Go.Proofs.Ytbnmildjamjjmaa
