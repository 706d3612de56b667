/-
  The library's sort of uint64, its walks: breakPatternsOrdered, as far as it permutes its part. Conditions: at most 100000 numbers.
-/
import Derived.Test.YtbnmildjamjjmaaSortE
import Derived.Test.YtbnmildjamjjmaaLenU
import Derived.Lib.ItoaNum
import Derived.OpenShut
namespace Go.Proofs.Ytbnmildjamjjmaa
open Go.RowKit
open Go.Sort (swp ltInt size_swp PermIn)

theorem bitLen_two (n : Nat) (h0 : n ≠ 0) (h : n < 2 ^ 64) : 1 ≤ 2 ^ Lib.bitLen n ∧ 2 ^ Lib.bitLen n ≤ 2 * n := by
  obtain ⟨h1, h2, _⟩ := Lib.bitLenAux_bounds 64 n h h0
  refine ⟨Nat.one_le_two_pow, ?_⟩
  have e : Lib.bitLen n = Lib.bitLenAux 64 n := rfl
  rw [e]
  obtain ⟨k, hk⟩ : ∃ k, Lib.bitLenAux 64 n = k + 1 := ⟨Lib.bitLenAux 64 n - 1, by omega⟩
  rw [hk] at h2 ⊢
  rw [Nat.add_sub_cancel] at h2
  rw [Nat.pow_succ]
  omega

theorem Blk.drew {w : World} {g : Nat} {t : TypeId} {cs : Array Value} (h : Blk w g t cs) : Blk w.drew g t cs := h

set_option maxHeartbeats 2000000 in
theorem next_any {w : World} {gs : Nat} {z : Int} (h : Blk w gs 99 #[.int .u64 z]) :
    Calls Try.prog 56 #[.pointer (some ⟨gs, 0, none⟩)] w fun e w' => ∃ y : Int, e = .returned (.int .u64 y) ∧ (Lit.int .u64 y).wf = true ∧ Upd (fun k => k = gs) w w' ∧ Blk w' gs 99 #[.int .u64 y] := by
  have c0 : w.cell? ⟨gs, 0, none⟩ = some (.int .u64 z) := h.cell 0
  have f0 : w.frozen? ⟨gs, 0, none⟩ = false := h.frozen 0
  have H := Lib.hid h
  clear h
  go_enter Try.func56, Try.ntmps56
  go_wp2
  go_region
  generalize hz1 : bits BinOp.xor IntKind.u64 z (IntKind.u64.wrap (z * 8192)) = z1
  obtain ⟨w1, hw1⟩ : ∃ w1, w1 = (w.setCell ⟨gs, 0, none⟩ (.int .u64 z1)).drew := ⟨_, rfl⟩
  rw [← hw1]
  have hb1 : Blk w1 gs 99 #[.int .u64 z1] := by rw [hw1]; exact Blk.drew (by have := H.out.set_ 0 (.int .u64 z1); simpa using this)
  have hu1 : Upd (fun k => k = gs) w w1 := by rw [hw1]; exact (Upd.setCell (F := fun k => k = gs) (Upd.refl _ _) (p := ⟨gs, 0, none⟩) (.inl rfl) _).drew
  clear hw1 hz1 c0 f0
  have c1 : w1.cell? ⟨gs, 0, none⟩ = some (.int .u64 z1) := hb1.cell 0
  have f1 : w1.frozen? ⟨gs, 0, none⟩ = false := hb1.frozen 0
  have HB1 := Lib.hid hb1
  have HU1 := Lib.hid hu1
  clear hb1 hu1
  go_wp2
  go_region
  generalize hz2 : bits BinOp.xor IntKind.u64 z1 _ = z2
  obtain ⟨w2, hw2⟩ : ∃ w2, w2 = (w1.setCell ⟨gs, 0, none⟩ (.int .u64 z2)).drew := ⟨_, rfl⟩
  rw [← hw2]
  have hb2 : Blk w2 gs 99 #[.int .u64 z2] := by rw [hw2]; exact Blk.drew (by have := HB1.out.set_ 0 (.int .u64 z2); simpa using this)
  have hu2 : Upd (fun k => k = gs) w w2 := by rw [hw2]; exact (HU1.out.setCell (p := ⟨gs, 0, none⟩) (.inl rfl) _).drew
  clear hw2 hz2 c1 f1
  have c2 : w2.cell? ⟨gs, 0, none⟩ = some (.int .u64 z2) := hb2.cell 0
  have f2 : w2.frozen? ⟨gs, 0, none⟩ = false := hb2.frozen 0
  have HB2 := Lib.hid hb2
  have HU2 := Lib.hid hu2
  clear hb2 hu2
  go_wp2
  go_region
  generalize hz3 : bits BinOp.xor IntKind.u64 z2 _ = z3
  have hwf : (Lit.int .u64 z3).wf = true := by rw [← hz3]; exact wf_bits _ _ _ _
  obtain ⟨w3, hw3⟩ : ∃ w3, w3 = (w2.setCell ⟨gs, 0, none⟩ (.int .u64 z3)).drew := ⟨_, rfl⟩
  rw [← hw3]
  have hb3 : Blk w3 gs 99 #[.int .u64 z3] := by rw [hw3]; exact Blk.drew (by have := HB2.out.set_ 0 (.int .u64 z3); simpa using this)
  have hu3 : Upd (fun k => k = gs) w w3 := by rw [hw3]; exact (HU2.out.setCell (p := ⟨gs, 0, none⟩) (.inl rfl) _).drew
  clear hw3 hz3 c2 f2
  have c3 : w3.cell? ⟨gs, 0, none⟩ = some (.int .u64 z3) := hb3.cell 0
  have HB3 := Lib.hid hb3
  have HU3 := Lib.hid hu3
  have HW3 := Lib.hid hwf
  clear hb3 hu3 hwf
  go_wp2
  go_ret
  exact ⟨z3, rfl, HW3.out, HU3.out, HB3.out⟩

theorem npow_any (n : Nat) (w : World) (h0 : 0 < n) (hn : n ≤ 100000) :
    Calls Try.prog 55 #[.int .i64 (n : Int)] w fun e w' => ∃ m : Nat, e = .returned (.int .u64 (m : Int)) ∧ 1 ≤ m ∧ m ≤ 2 * n ∧ w = w' := by
  have hb := bitLen_two n (by omega) (by omega)
  obtain ⟨L, hL⟩ : ∃ L, Lib.bitLen n = L := ⟨_, rfl⟩
  have HB := Lib.hid (hL ▸ bits_Len n w (by omega))
  rw [hL] at hb
  have hni : (n : Int) ≤ 100000 := by omega
  clear hL
  go_enter Try.func55, Try.ntmps55
  go_wp2_with fail
  refine HB.out.mono ?_
  rintro e w' ⟨rfl, rfl⟩
  go_wp2_with fail
  go_ret
  have hL : L < 64 := by
    rcases Nat.lt_or_ge L 64 with h | h
    · exact h
    · have := Nat.pow_le_pow_right (n := 2) (by omega) h
      omega
  refine ⟨2 ^ L, ret_int ?_, hb.1, hb.2, rfl⟩
  rw [show min L 64 = L from by omega]
  have e : ((2 ^ L : Nat) : Int) = 2 ^ L := by simp
  rw [← e]
  exact IntWalk.u64_in _ ⟨by omega, by omega⟩

theorem and_bd (x : Int) (y : Nat) (hy : y < 2 ^ 62) : 0 ≤ bits .and .u64 x (y : Int) ∧ bits .and .u64 x (y : Int) ≤ (y : Int) := by
  have hv : (BitVec.ofInt 64 (y : Int)).toNat = y := by simp; omega
  have h : (BitVec.ofInt 64 x &&& BitVec.ofInt 64 (y : Int)).toNat ≤ y := by
    rw [BitVec.toNat_and, hv]
    exact Nat.and_le_right
  have e : bits .and .u64 x (y : Int) = ((BitVec.ofInt 64 x &&& BitVec.ofInt 64 (y : Int)).toNat : Int) := by
    show IntKind.u64.wrap ((BitVec.ofInt 64 x &&& BitVec.ofInt 64 (y : Int)).toNat : Int) = _
    exact IntWalk.u64_in _ ⟨by omega, by omega⟩
  rw [e]
  omega

set_option maxHeartbeats 8000000 in
theorem break_any {w0 w : World} {g off : Nat} {ty : TypeId} {N : Nat} {d : Array Int} (h : Ar w0 w g off ty N d) (cap a b : Nat) (hab : a + 12 < b) (hb : b ≤ d.size) (hsz : d.size ≤ 100000) :
    Calls Try.prog 45 #[.slice (some ⟨g, off, none⟩) d.size cap, .int .i64 a, .int .i64 b] w fun e w' => e = .returned (.tuple #[]) ∧ ∃ d', PermIn a b d d' ∧ Ar w0 w' g off ty N d' := by
  obtain ⟨cs, hbk, _⟩ := h.blk
  have hgl : g < w.heap.size := (Array.getElem?_eq_some_iff.1 hbk).1
  obtain ⟨n, hn⟩ : ∃ n, d.size = n := ⟨_, rfl⟩
  have HN := Lib.hid hn
  rw [hn] at hb hsz ⊢
  obtain ⟨l, hl⟩ : ∃ l, b - a = l := ⟨_, rfl⟩
  obtain ⟨q, hq⟩ : ∃ q, l / 4 = q := ⟨_, rfl⟩
  have e0 : (b : Int) - (a : Int) = (l : Int) := by omega
  have e1 : (l : Int) / 4 = (q : Int) := by omega
  have q0 : 3 ≤ q := by omega
  have q1 : a + 4 * q ≤ b := by omega
  have hl8 : (8 : Int) ≤ (l : Int) := by omega
  have hli : (l : Int) ≤ 100000 := by omega
  have hlb : a + l = b := by omega
  have HLB := Lib.hid hlb
  have H := Lib.hid h
  have HP := Lib.hid (npow_any l (w.alloc (.cells #[.int .u64 (l : Int)] 99)) (by omega) (by omega))
  clear hbk h hn hl hq hlb
  go_enter Try.func45, Try.ntmps45
  go_wp2_with fail
  refine HP.out.mono ?_
  rintro e w' ⟨m, rfl, m1, m2, rfl⟩
  obtain ⟨m', hm'⟩ : ∃ m', m - 1 = m' := ⟨_, rfl⟩
  have em : (m : Int) - 1 = (m' : Int) := by omega
  have hml : m' < 2 * l := by omega
  have mi : (m : Int) ≤ 200000 := by omega
  have mi1 : 1 ≤ (m : Int) := by omega
  clear hm'
  have HP0 : Hid (PermIn a b d d) := Go.Sort.permIn_refl d a b
  have HA0 := Lib.hid (H.out.alloc (.cells #[.int .u64 (l : Int)] 99))
  obtain ⟨gs, hgs⟩ : ∃ gs, gs = w.heap.size := ⟨_, rfl⟩
  have HB0 : Hid (Blk (w.alloc (.cells #[.int .u64 (l : Int)] 99)) gs 99 #[.int .u64 (l : Int)]) := by rw [hgs]; exact Blk.new _ _ _
  have hgne : g ≠ gs := by omega
  have hglo : w0.heap.size ≤ gs := by rw [hgs]; exact H.out.upd.size
  go_wp2_with fail
  rw [← hgs]
  obtain ⟨w1, hw1⟩ : ∃ w1, w1 = w.alloc (.cells #[.int .u64 (l : Int)] 99) := ⟨_, rfl⟩
  rw [← hw1] at HA0 HB0 ⊢
  clear hw1 e0 hgs hgl
  have es : (a : Int) + (q : Int) * 2 - 1 = ((a + q * 2 - 1 : Nat) : Int) := by omega
  have ES := Lib.hid es
  clear es
  go_loopw [9] (fun vi wr => ∃ (i : Nat) (dk : Array Int) (z : Int), vi = .int .i64 i ∧ a ≤ i ∧ i ≤ a + q * 2 + 2 ∧ PermIn a b d dk ∧ Ar w0 wr g off ty N dk ∧ Blk wr gs 99 #[.int .u64 z]) (fun vi _ => a + q * 2 + 2 - (intOf vi).toNat)
  case atStart => exact ⟨a + q * 2 - 1, d, _, by rw [ES.out], by omega, by omega, HP0.out, HA0.out, HB0.out⟩
  case round =>
    obtain ⟨i, dk, z, rfl, hai, hiq, hp, hA, hB⟩ := hrel
    have hsk : dk.size = n := hp.1.trans HN.out
    by_cases hlt : i ≤ a + q * 2 + 1
    · have hlti : (i : Int) ≤ (a : Int) + (q : Int) * 2 + 1 := by omega
      have HN1 := Lib.hid (next_any hB)
      have HPP := Lib.hid hp
      have HA := Lib.hid hA
      have HSK := Lib.hid hsk
      clear hA hB hp hsk
      go_wp2_with fail
      refine HN1.out.mono ?_
      rintro e w2 ⟨y, rfl, _, hu2, hb2⟩
      have HA2 : Hid (Ar w0 w2 g off ty N dk) := by
        obtain ⟨cs, hb', hs'⟩ := HA.out.blk
        have hgl : g < wr.heap.size := (Array.getElem?_eq_some_iff.1 hb').1
        exact ⟨HA.out.upd.trans hu2 (fun k hk h => by rw [h] at hk; omega), ⟨cs, (hu2.block g hgl hgne).trans hb', hs'⟩, fun t ht => (hu2.cell (p := ⟨g, off + t, none⟩) hgl hgne).trans (HA.out.cells t ht)⟩
      obtain ⟨b0, b1⟩ := and_bd y m' (by omega)
      obtain ⟨v, hv⟩ : ∃ v : Nat, bits .and .u64 y (m' : Int) = (v : Int) := ⟨(bits .and .u64 y (m' : Int)).toNat, by omega⟩
      have hvm : v ≤ m' := by omega
      rw [hv] at b0 b1
      have HB2 := Lib.hid hb2
      clear hu2 hb2
      obtain ⟨G, hG⟩ : ∃ G : Nat → Int, ∀ t, G t = dk[t]! := ⟨fun t => dk[t]!, fun _ => rfl⟩
      have hcw : ∀ t, t < n → w2.cell? ⟨g, off + t, none⟩ = some (.int .u64 (G t)) := fun t ht => by rw [hG]; exact HA2.out.cells t (by rw [HSK.out]; exact ht)
      have hfw : ∀ t, t < n → w2.frozen? ⟨g, off + t, none⟩ = false := fun t _ => HA2.out.free t
      have vi : (v : Int) ≤ 200000 := by omega
      have hin : i < n := by omega
      have hini : (i : Int) < (n : Int) := by omega
      rcases Nat.lt_or_ge v l with hvl | hvl
      case' inl =>
        have hvli : (v : Int) < (l : Int) := by omega
        go_wp2_with fail
        obtain ⟨o, ho⟩ : ∃ o, o = v := ⟨_, rfl⟩
        subst ho
        have hol : o < l := hvl
      case' inr =>
        have hvli : (l : Int) ≤ (v : Int) := by omega
        obtain ⟨o, ho⟩ : ∃ o, v - l = o := ⟨_, rfl⟩
        have hol : o < l := by omega
        have eo : (v : Int) - (l : Int) = (o : Int) := by omega
        clear ho
        go_wp2_with fail
      all_goals
        have hlb2 := HLB.out
        have han : a + o < n := by omega
        have hani : (a : Int) + (o : Int) < (n : Int) := by omega
        have han0 : 0 ≤ (a : Int) + (o : Int) := by omega
        obtain ⟨v2, hv2⟩ := cell?_setCell_some (w := w2) (p := ⟨g, off + i, none⟩) (x := .int .u64 (G (a + o))) (q := ⟨g, off + (a + o), none⟩) (v := .int .u64 (G (a + o))) (hcw _ han)
        have HS : Hid (Ar w0 ((((w2.setCell ⟨g, off + i, none⟩ (.int .u64 (G (a + o)))).setCell ⟨g, off + (a + o), none⟩ (.int .u64 (G i))).drew)) g off ty N (swp dk i (a + o))) := by
          show Ar _ _ _ _ _ _ _
          rw [hG, hG]; exact (HA2.out.swap i (a + o) (by rw [HSK.out]; exact hin) (by rw [HSK.out]; exact han)).drew
        have HPS : Hid (PermIn a b d (swp dk i (a + o))) := Go.Sort.permIn_trans _ _ _ _ _ HPP.out (Go.Sort.swp_permIn dk a b i (a + o) hai (by omega) (by omega) (by omega) (by rw [HSK.out]; exact hb))
        have HBS : Hid (Blk ((((w2.setCell ⟨g, off + i, none⟩ (.int .u64 (G (a + o)))).setCell ⟨g, off + (a + o), none⟩ (.int .u64 (G i))).drew)) gs 99 #[.int .u64 y]) := Blk.drew ((HB2.out.far (p := ⟨g, off + i, none⟩) (fun e => hgne e.symm) _).far (p := ⟨g, off + (a + o), none⟩) (fun e => hgne e.symm) _)
        have t1 : IntKind.i64.wrap ((a : Int) + (o : Int)) = (a : Int) + (o : Int) := IntWalk.i64_in _ (by omega)
        have t3 : ((a : Int) + (o : Int)).toNat = a + o := by omega
        clear hG hlb2
        go_region
        all_goals clear t1 t3 hv2 hcw hfw
        go_wp2_with fail
        go_roundw
        case rel => exact ⟨i + 1, _, y, by go_num, by omega, by omega, HPS.out, HS.out, HBS.out⟩
        case measure => simp [intOf]; omega
    · have hlti : ¬ (i : Int) ≤ (a : Int) + (q : Int) * 2 + 1 := by omega
      have HPP := Lib.hid hp
      have HA := Lib.hid hA
      clear hA hB hp hsk
      go_wp2_with fail
      go_end0
      exact ⟨rfl, dk, HPP.out, HA.out⟩

end Go.Proofs.Ytbnmildjamjjmaa
