/-
  slices.Sort of uint64 sorts up to 100000 numbers. Conditions: at most 100000 numbers.
-/
import Derived.Test.YtbnmildjamjjmaaSortH
import Derived.Test.YtbnmildjamjjmaaPropD
namespace Go.Proofs.Ytbnmildjamjjmaa
open Go.RowKit
open Go.Sort (ltInt PermIn SortedIn)

theorem row_of_ar {w0 wr : World} {g N : Nat} {d : Array Int} (h : Ar w0 wr g 0 28 N d) (base cap : Nat) (hb : base ≤ g) (hN : N = cap) (h1 : d.size ≤ cap) (h2 : cap ≤ maxLen) : wr.ownsRow base 28 1 (.slice (some ⟨g, 0, none⟩) d.size cap) d.size (d.toList.map (Value.int .u64)) := by
  obtain ⟨cs, hbk, hs⟩ := h.blk
  refine ⟨by simp, .inr ⟨g, cap, cs, rfl, hb, hbk, h1, h2, by rw [hs, hN, Nat.mul_one], ?_⟩⟩
  rw [Nat.mul_one]
  apply List.ext_getElem?
  intro t
  by_cases ht : t < d.size
  · have hc := h.cells t ht
    rw [Nat.zero_add, cell_of_row _ _ _ _ _ _ hbk] at hc
    rw [List.getElem?_take, if_pos ht, Array.getElem?_toList, hc, List.getElem?_map, Array.getElem?_toList, Array.getElem?_eq_getElem ht, getElem!_pos d t ht]
    rfl
  · rw [List.getElem?_eq_none (by simp; omega), List.getElem?_eq_none (by simp; omega)]

theorem sort_any : SortOk 100000 := by
  intro w base v ss hl hw ho
  rcases ho.2 with ⟨rfl, hz⟩ | ⟨g, cap, cur, rfl, hbase, hgg, h1, h2, h3, h4⟩
  · exact sort_one w base _ ss (by omega) hw ho
  · have hA : Ar w w g 0 28 cap ss.toArray := ⟨Upd.refl _ _, ⟨cur, hgg, by rw [h3, Nat.mul_one]⟩, fun t ht => by
      have ht' : t < ss.length := by simpa using ht
      rw [Nat.zero_add, ho.cellAt t (by omega), List.getElem?_map, List.getElem?_eq_getElem ht', getElem!_pos _ t ht]
      simp⟩
    have hsz : ss.toArray.size = ss.length := by simp
    have hp := pdq_any ss.length hA cap 0 ss.length (Lib.bitLen ss.length : Nat) (by omega) (by omega) (by rw [hsz]; exact Nat.le_refl _) (by rw [hsz]; exact hl) (by omega) (by have := Lib.bitLen_le ss.length 64 (by omega) (by omega); omega) (.inl rfl)
    rw [hsz] at hp
    have HP := Lib.hid hp
    have HB := Lib.hid (bits_Len ss.length w (by omega))
    have HSZ := Lib.hid hsz
    obtain ⟨n, hn⟩ : ∃ n, ss.length = n := ⟨_, rfl⟩
    have HN := Lib.hid hn
    rw [hn] at HP HB hl h1 ⊢
    clear hA hp ho hgg h3 h4 hw hsz hn
    have hl' : (n : Int) ≤ 100000 := by omega
    go_enter Try.func38, Try.ntmps38
    go_wp2_with fail
    refine HB.out.mono ?_
    rintro e w' ⟨rfl, rfl⟩
    go_wp2_with fail
    refine HP.out.mono ?_
    rintro e w' ⟨rfl, d', hp, hs, hA⟩
    have HA := Lib.hid hA
    have HPP := Lib.hid hp
    have HSS := Lib.hid hs
    clear hp hs hA
    go_wp2_with fail
    go_end0
    have hds : d'.size = n := by rw [HPP.out.1, HSZ.out, HN.out]
    refine ⟨rfl, d'.toList, ?_, ?_, ?_, HA.out.upd.mono (fun k _ h => by simp [Value.ownBlock, h])⟩
    · have h := HPP.out.2.2
      have e1 : (d'.extract 0 n).toList = d'.toList := by rw [← hds]; simp
      have e2 : (ss.toArray.extract 0 n).toList = ss := by rw [← HN.out]; simp
      rw [e1, e2] at h
      exact h
    · rw [List.pairwise_iff_getElem]
      intro i j hi hj hij
      have hi' : i < d'.size := by simpa using hi
      have hj' : j < d'.size := by simpa using hj
      have h := HSS.out i j (Nat.zero_le _) hij (by rw [← hds]; exact hj')
      rw [getElem!_pos d' i hi', getElem!_pos d' j hj'] at h
      have := of_decide_eq_false h
      simp only [Array.getElem_toList]
      omega
    · have := row_of_ar HA.out base cap hbase rfl (by omega) h2
      rw [hds] at this
      simpa [hds] using this

end Go.Proofs.Ytbnmildjamjjmaa
