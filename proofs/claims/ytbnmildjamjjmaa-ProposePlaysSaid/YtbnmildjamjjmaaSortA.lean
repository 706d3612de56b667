/-
  The library's sort of uint64, its walks: a row of numbers in one block ('Ar'), cmp.Less, insertionSortOrdered. The plain functions are the library of proofs' own. Conditions: at most 100000 numbers.
-/
import Derived.Test.YtbnmildjamjjmaaRows
import Derived.Test.YtbnmildjamjjmaaBase
import Derived.Sort.AssemblyPlain
import Derived.Sort.Row
import Derived.CellFam
import Derived.BigGuard
import Derived.BigCall
import Derived.Deep.QuietTactic
import Derived.BigQuiet
import Derived.BigRegion
import Derived.IntWalk
namespace Go.Proofs.Ytbnmildjamjjmaa
open Go.RowKit

open Go.Sort (swp ltInt size_swp)

/-- Block g of wr holds the numbers d from off on; since w0 nothing old has changed but this block. -/
structure Ar (w0 wr : World) (g off : Nat) (ty : TypeId) (N : Nat) (d : Array Int) : Prop where
  upd : Upd (fun k => k = g) w0 wr
  blk : ∃ cs, wr.heap[g]? = some (.cells cs ty (0, 0)) ∧ cs.size = N
  cells : ∀ t, t < d.size → wr.cell? ⟨g, off + t, none⟩ = some (.int .u64 d[t]!)

section
variable {w0 wr : World} {g off : Nat} {ty : TypeId} {N : Nat} {d : Array Int}
theorem Ar.free (h : Ar w0 wr g off ty N d) (t : Nat) : wr.frozen? ⟨g, off + t, none⟩ = false := by
  obtain ⟨cs, hb, _⟩ := h.blk
  simp [World.frozen?, hb]
theorem Ar.drewN (h : Ar w0 wr g off ty N d) (q : Nat) : Ar w0 (wr.drewN q) g off ty N d := ⟨h.upd.drewN q, h.blk, h.cells⟩
theorem Ar.drew (h : Ar w0 wr g off ty N d) : Ar w0 wr.drew g off ty N d := ⟨h.upd.drew, h.blk, h.cells⟩
theorem Ar.alloc (h : Ar w0 wr g off ty N d) (o : Obj) : Ar w0 (wr.alloc o) g off ty N d := by
  obtain ⟨cs, hb, hs⟩ := h.blk
  have hg : g < wr.heap.size := (Array.getElem?_eq_some_iff.1 hb).1
  exact ⟨h.upd.alloc o, ⟨cs, (Below.heap_alloc wr o g hg).trans hb, hs⟩, fun t ht => (World.cell?_of_block (w := wr) (Below.heap_alloc wr o g hg)).trans (h.cells t ht)⟩
theorem Ar.still {w1 : World} (h : Ar w0 wr g off ty N d) (hu : Upd (fun _ => False) wr w1) : Ar w0 w1 g off ty N d := by
  obtain ⟨cs, hb, hs⟩ := h.blk
  have hg : g < wr.heap.size := (Array.getElem?_eq_some_iff.1 hb).1
  exact ⟨h.upd.trans hu (fun _ _ h => h.elim), ⟨cs, (hu.block g hg id).trans hb, hs⟩, fun t ht => (hu.cell (p := ⟨g, off + t, none⟩) hg id).trans (h.cells t ht)⟩
theorem Ar.far (h : Ar w0 wr g off ty N d) {p : Addr} (hp : w0.heap.size ≤ p.block) (hg : g ≠ p.block) (u : Value) : Ar w0 (wr.setCell p u) g off ty N d := by
  obtain ⟨cs, hb, hs⟩ := h.blk
  exact ⟨h.upd.setCell (.inr hp) u, ⟨cs, (Below.heap_setCell wr p u g hg).trans hb, hs⟩, fun t ht => (World.cell?_of_block (w := wr) (Below.heap_setCell wr p u g hg)).trans (h.cells t ht)⟩
theorem Ar.set (h : Ar w0 wr g off ty N d) (i : Nat) (hi : i < d.size) (x : Int) : Ar w0 (wr.setCell ⟨g, off + i, none⟩ (.int .u64 x)) g off ty N (d.setIfInBounds i x) := by
  obtain ⟨cs, hb, hs⟩ := h.blk
  have hb2 : (wr.setCell ⟨g, off + i, none⟩ (.int .u64 x)).heap[g]? = some (.cells (cs.setIfInBounds (off + i) (.int .u64 x)) ty (0, 0)) := by simp [World.setCell, Array.getElem?_modify, hb]
  refine ⟨h.upd.setCell (p := ⟨g, off + i, none⟩) (.inl rfl) _, ⟨_, hb2, by simpa using hs⟩, fun t ht => ?_⟩
  have ht' : t < d.size := by simpa using ht
  have hc := h.cells t ht'
  rw [cell_of_row _ _ _ _ _ _ hb] at hc
  rw [cell_of_row _ _ _ _ _ _ hb2, Array.getElem?_setIfInBounds]
  by_cases e : t = i
  · subst e
    have hlt : off + t < cs.size := (Array.getElem?_eq_some_iff.1 hc).1
    rw [if_pos rfl, if_pos hlt, Go.Sort.getElem!_set_same d t x hi]
  · rw [if_neg (by omega), hc, Go.Sort.getElem!_set_other d i t x e]
theorem Ar.swap (h : Ar w0 wr g off ty N d) (i j : Nat) (hi : i < d.size) (hj : j < d.size) :
    Ar w0 ((wr.setCell ⟨g, off + i, none⟩ (.int .u64 d[j]!)).setCell ⟨g, off + j, none⟩ (.int .u64 d[i]!)) g off ty N (swp d i j) :=
  (h.set i hi _).set j (by simpa using hj) _
end

theorem isNaN_u (x : Int) (w : World) : Calls Try.prog 59 #[.int .u64 x] w fun e w' => e = .returned (.bool false) ∧ w' = w := by
  go_enter Try.func59, Try.ntmps59
  go_wp2
  go_ret
  exact ⟨by simp, rfl⟩
theorem less_u (x y : Int) (w : World) : Calls Try.prog 49 #[.int .u64 x, .int .u64 y] w fun e w' => e = .returned (.bool (ltInt x y)) ∧ w' = w := by
  go_enter Try.func49, Try.ntmps49
  go_wp2_with (go_at_call 59; refine (isNaN_u _ _).mono ?_; rintro e w' ⟨rfl, rfl⟩)
  go_ret
  exact ⟨rfl, rfl⟩

/-! What each way of a round does to the plain functions. -/
theorem insIn_go (a j : Nat) (d : Array Int) (hj : a < j) (hl : ltInt d[j]! d[j - 1]! = true) : Sort.insInner ltInt a j d = Sort.insInner ltInt a (j - 1) (swp d j (j - 1)) := by
  obtain ⟨k, rfl⟩ : ∃ k, j = k + 1 := ⟨j - 1, by omega⟩
  rw [Nat.add_sub_cancel] at hl ⊢
  rw [Sort.insInner, hl, decide_eq_true hj]
  rfl
theorem insIn_stop (a j : Nat) (d : Array Int) (h : j ≤ a ∨ ltInt d[j]! d[j - 1]! = false) : Sort.insInner ltInt a j d = d := by
  cases j with
  | zero => rfl
  | succ k =>
    rw [Nat.add_sub_cancel] at h
    rw [Sort.insInner]
    rcases h with h | h
    · rw [decide_eq_false (by omega)]; rfl
    · rw [h, Bool.and_false]; rfl
theorem insOut_go (a b i : Nat) (d : Array Int) (h : i < b) : Sort.insOuter ltInt a b i d = Sort.insOuter ltInt a b (i + 1) (Sort.insInner ltInt a i d) := by rw [Sort.insOuter, if_pos h]
theorem insOut_stop (a b i : Nat) (d : Array Int) (h : ¬ i < b) : Sort.insOuter ltInt a b i d = d := by rw [Sort.insOuter, if_neg h]

set_option maxHeartbeats 2000000 in
theorem ins_any {w0 w : World} {g off : Nat} {ty : TypeId} {N : Nat} {d : Array Int} (h : Ar w0 w g off ty N d) (cap a b : Nat) (hab : a ≤ b) (hb : b ≤ d.size) (hsz : d.size ≤ 100000) :
    Calls Try.prog 43 #[.slice (some ⟨g, off, none⟩) d.size cap, .int .i64 a, .int .i64 b] w fun e w' => e = .returned (.tuple #[]) ∧ Ar w0 w' g off ty N (Sort.insertionSort ltInt d a b) := by
  have H := Lib.hid h
  clear h
  obtain ⟨n, hn⟩ : ∃ n, d.size = n := ⟨_, rfl⟩
  have HN := Lib.hid hn
  rw [hn] at hb hsz ⊢
  clear hn
  go_enter Try.func43, Try.ntmps43
  go_wp2
  go_loopw [6] (fun vi wr => ∃ (i : Nat) (dk : Array Int), vi = .int .i64 i ∧ a < i ∧ i ≤ b + 1 ∧ dk.size = n ∧ Ar w0 wr g off ty N dk ∧ Sort.insOuter ltInt a b i dk = Sort.insertionSort ltInt d a b) (fun vi _ => b + 1 - (intOf vi).toNat)
  case atStart => exact ⟨a + 1, d, by go_num, by omega, by omega, HN.out, H.out, rfl⟩
  case round =>
    obtain ⟨i, dk, rfl, hai, hib, hsk, hA, hO⟩ := hrel
    have HO := Lib.hid hO
    have HA := Lib.hid hA
    have HSK := Lib.hid hsk
    clear hO hA hsk
    by_cases hlt : i < b
    · go_wp2
      go_loopw [7] (fun vj wr => ∃ (j : Nat) (dj : Array Int), vj = .int .i64 j ∧ a ≤ j ∧ j ≤ i ∧ dj.size = n ∧ Ar w0 wr g off ty N dj ∧ Sort.insInner ltInt a j dj = Sort.insInner ltInt a i dk) (fun vj _ => (intOf vj).toNat)
      case atStart => exact ⟨i, dk, rfl, by omega, Nat.le_refl _, HSK.out, HA.out, rfl⟩
      case round =>
        obtain ⟨j, dj, rfl, haj, hji, hsj, hB, hI⟩ := hrel
        obtain ⟨G, hG⟩ : ∃ G : Nat → Int, ∀ t, G t = dj[t]! := ⟨fun t => dj[t]!, fun _ => rfl⟩
        have hcw : ∀ t, t < n → wr.cell? ⟨g, off + t, none⟩ = some (.int .u64 (G t)) := fun t ht => by rw [hG]; exact hB.cells t (by rw [hsj]; exact ht)
        have hfw : ∀ t, t < n → wr.frozen? ⟨g, off + t, none⟩ = false := fun t _ => hB.free t
        have HB := Lib.hid hB
        have HG := Lib.hid hG
        have HI := Lib.hid hI
        have HSJ := Lib.hid hsj
        clear hB hG hI hsj
        go_wp2
        by_cases hja : a < j
        · go_quiet (first | (go_at_call 49; refine Calls.quiet_of_same (less_u _ _ _)))
          go_wp2
          · have hl : ltInt (G j) (G (j - 1)) = true := by assumption
            go_region
            all_goals go_wp2
            go_roundw
            case rel =>
              refine ⟨j - 1, swp dj j (j - 1), by congr 1; omega, by omega, by omega, by rw [size_swp]; exact HSJ.out, ?_, ?_⟩
              · rw [HG.out, HG.out]
                exact (HB.out.drewN _).drew.swap j (j - 1) (by rw [HSJ.out]; omega) (by rw [HSJ.out]; omega)
              · rw [← HI.out, insIn_go a j dj hja (by rw [← HG.out, ← HG.out]; exact hl)]
            case measure => simp [intOf]; omega
          · have hl : ltInt (G j) (G (j - 1)) = false := by assumption
            go_roundw
            case rel => exact ⟨i + 1, dj, by go_num, by omega, by omega, HSJ.out, HB.out.drewN _, by rw [← HO.out, insOut_go _ _ _ _ hlt, ← HI.out, insIn_stop _ _ _ (.inr (by rw [← HG.out, ← HG.out]; exact hl))]⟩
            case measure => simp [intOf]; omega
        · go_quiet (first | (go_at_call 49; refine Calls.quiet_of_same (less_u _ _ _)))
          go_wp2
          go_roundw
          case rel => exact ⟨i + 1, dj, by go_num, by omega, by omega, HSJ.out, HB.out.drewN _, by rw [← HO.out, insOut_go _ _ _ _ hlt, ← HI.out, insIn_stop _ _ _ (.inl (by omega))]⟩
          case measure => simp [intOf]; omega
    · go_wp2
      go_end0
      exact ⟨rfl, by rw [← HO.out, insOut_stop _ _ _ _ hlt]; exact HA.out⟩

end Go.Proofs.Ytbnmildjamjjmaa
