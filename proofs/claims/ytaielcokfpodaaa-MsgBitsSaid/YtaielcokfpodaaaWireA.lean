/-
  Layer 1, the reader: its calls as they stand in the program. Conditions: what is left is bytes, at most 2^40 of them.
-/
import Derived.Test.YtaielcokfpodaaaRows
import Derived.Test.YtaielcokfpodaaaWireP
import Derived.Deep.QuietTactic
import Derived.BigQuiet
import Derived.Lib.Strings
import Derived.Lib.Bytes
import Derived.Laws.Bits64b
namespace Go.Proofs.Ytaielcokfpodaaa
open Go.RowKit

theorem strOf_extract (l : List Int) (a b : Nat) : (strOfNums l).extract a b = strOfNums ((l.take b).drop a) := by
  have : ((strOfNums l).extract a b).data.toList = (strOfNums ((l.take b).drop a)).data.toList := by
    rw [Lib.extract_data, strOfNums_data, strOfNums_data, List.drop_take, List.map_take, List.map_drop]
  exact ByteArray.ext (Array.toList_inj.1 this)
theorem strOf_from (l : List Int) (a : Nat) : (strOfNums l).extract a l.length = strOfNums (l.drop a) := by
  rw [strOf_extract, List.take_length]
theorem strOf_upto (l : List Int) (b : Nat) : (strOfNums l).extract 0 b = strOfNums (l.take b) := by
  rw [strOf_extract, List.drop_zero]
theorem strOf_app (a b : List Int) : strOfNums a ++ strOfNums b = strOfNums (a ++ b) := by
  have : (strOfNums a ++ strOfNums b).data.toList = (strOfNums (a ++ b)).data.toList := by
    rw [strOfNums_data, ByteArray.data_append, Array.toList_append, strOfNums_data, strOfNums_data, List.map_append]
  exact ByteArray.ext (Array.toList_inj.1 this)
theorem strOf_nil : strOfNums [] = { data := #[] } := rfl
theorem strOf_at (l : List Int) (hb : Byt l) (k : Nat) (h : k < (strOfNums l).size) (hl : k < l.length) : (((strOfNums l)[k]'h).toNat : Int) = l[k] := by
  have hx := hb l[k] (List.getElem_mem hl)
  have : (strOfNums l)[k]'h = UInt8.ofNat l[k].toNat := by
    show (strOfNums l).data[k] = _
    simp [strOfNums]
  rw [this, UInt8.toNat_ofNat']
  omega
theorem strOf_list (l : List Int) : (strOfNums l).toList = Lib.bytesOf l := Lib.strOfNums_toList l

/-- A reader in memory. -/
def Rd (w : World) (b : Nat) (s : Rs) : Prop := Blk w b 78 #[.string (strOfNums s.1), .int .i64 s.2]
/-- .. behind a call: the reader alone has changed. -/
def RdTo (w : World) (b : Nat) (s : Rs) (w' : World) : Prop := Upd (fun k => k = b) w w' ∧ Rd w' b s
def RdOk (s : Rs) : Prop := Byt s.1 ∧ s.1.length ≤ 1000000000000

theorem Rd.set {w : World} {b : Nat} {s : Rs} (h : Rd w b s) (l : List Int) (e : Int) : RdTo w b (l, e) ((w.setCell ⟨b, 0, none⟩ (.string (strOfNums l))).setCell ⟨b, 1, none⟩ (.int .i64 e)) := by
  have h2 := (Blk.set_ h 0 (.string (strOfNums l))).set_ 1 (.int .i64 e)
  simp at h2
  exact ⟨Upd.setCell (F := fun k => k = b) (Upd.setCell (F := fun k => k = b) (Upd.refl _ _) (p := ⟨b, 0, none⟩) (.inl rfl) _) (p := ⟨b, 1, none⟩) (.inl rfl) _, h2⟩

theorem wfail_any {w : World} {b : Nat} {s : Rs} (h : Rd w b s) (e : Int) :
    Calls Try.prog 38 #[.pointer (some ⟨b, 0, none⟩), .int .i64 e] w fun e' w' => (∃ v, e' = .returned v) ∧ RdTo w b ([], e) w' := by
  have c0 : w.cell? ⟨b, 0, none⟩ = some (.string (strOfNums s.1)) := Blk.cell h 0
  have c1 : w.cell? ⟨b, 1, none⟩ = some (.int .i64 s.2) := Blk.cell h 1
  have f0 : w.frozen? ⟨b, 0, none⟩ = false := Blk.frozen h 0
  have f1 : w.frozen? ⟨b, 1, none⟩ = false := Blk.frozen h 1
  have HS := Lib.hid (h.set [] e)
  clear h
  go_enter Try.func38, Try.ntmps38
  go_wp2_with fail
  go_end0
  exact ⟨⟨_, rfl⟩, HS.out⟩

theorem wleft_any {w : World} {b : Nat} {s : Rs} (h : Rd w b s) (_hs : RdOk s) :
    Calls Try.prog 36 #[.pointer (some ⟨b, 0, none⟩)] w fun e' w' => e' = .returned (.int .i64 (s.1.length : Int)) ∧ w = w' := by
  have c0 : w.cell? ⟨b, 0, none⟩ = some (.string (strOfNums s.1)) := Blk.cell h 0
  have hz := strOfNums_size s.1
  clear h
  go_enter Try.func36, Try.ntmps36
  go_wp2_with fail
  go_ret
  exact ⟨rfl, rfl⟩

theorem werr_any {w : World} {b : Nat} {s : Rs} (h : Rd w b s) :
    Calls Try.prog 35 #[.pointer (some ⟨b, 0, none⟩)] w fun e' w' => e' = .returned (.int .i64 s.2) ∧ w = w' := by
  have c1 : w.cell? ⟨b, 1, none⟩ = some (.int .i64 s.2) := Blk.cell h 1
  clear h
  go_enter Try.func35, Try.ntmps35
  go_wp2_with fail
  go_ret
  exact ⟨rfl, rfl⟩

set_option maxHeartbeats 2000000 in
theorem wtake_any {w : World} {b : Nat} {s : Rs} (h : Rd w b s) (hs : RdOk s) (n : Nat) (_hn : n ≤ 18446744073709551615) :
    Calls Try.prog 37 #[.pointer (some ⟨b, 0, none⟩), .int .u64 (n : Int)] w fun e' w' => e' = .returned (.string (strOfNums (pTake n s).1)) ∧ RdTo w b (pTake n s).2 w' := by
  have c0 : w.cell? ⟨b, 0, none⟩ = some (.string (strOfNums s.1)) := Blk.cell h 0
  have c1 : w.cell? ⟨b, 1, none⟩ = some (.int .i64 s.2) := Blk.cell h 1
  have f0 : w.frozen? ⟨b, 0, none⟩ = false := Blk.frozen h 0
  have hz := strOfNums_size s.1
  have HR := Lib.hid h
  have hl := hs.2
  clear h hs
  obtain ⟨l, e⟩ := s
  simp only at c0 c1 hz hl
  unfold pTake
  by_cases he : e ≠ 0
  · rw [if_pos (show (l, e).2 ≠ 0 from he)]
    have he' : (e != 0) = true := bne_iff_ne.2 he
    clear he
    go_enter Try.func37, Try.ntmps37
    go_wp2_with fail
    go_ret
    exact ⟨rfl, Upd.refl _ _, HR.out⟩
  · obtain rfl : e = 0 := by omega
    rw [if_neg (show ¬ (l, (0 : Int)).2 ≠ 0 by simp)]
    by_cases hlt : l.length < n
    · rw [if_pos hlt]
      have HF := Lib.hid (wfail_any HR.out 3)
      have hz2 : ((strOfNums l).size : Int) < (n : Int) := by omega
      clear he
      go_enter Try.func37, Try.ntmps37
      go_wp2_with fail
      refine HF.out.mono ?_
      rintro e w' ⟨⟨v, rfl⟩, hto⟩
      have HT := Lib.hid hto
      clear hto
      go_wp2_with fail
      go_ret
      exact ⟨rfl, HT.out⟩
    · rw [if_neg hlt]
      have hz2 : (n : Int) ≤ ((strOfNums l).size : Int) := by omega
      have hz3 : (n : Int) ≤ (l.length : Int) := by omega
      have he1 := strOf_upto l n
      have he2 := strOf_from l n
      clear he
      go_enter Try.func37, Try.ntmps37
      go_wp2_with fail
      go_ret
      have hb := Blk.set_ HR.out 0 (.string (strOfNums (l.drop n)))
      simp at hb
      exact ⟨rfl, Upd.setCell (F := fun k => k = b) (Upd.refl _ _) (p := ⟨b, 0, none⟩) (.inl rfl) _, hb⟩

theorem RdOk.take {s : Rs} (h : RdOk s) (n : Nat) : RdOk (pTake n s).2 ∧ Byt (pTake n s).1 := by
  unfold pTake RdOk at *
  split
  · exact ⟨h, Byt.nil⟩
  · split
    · exact ⟨⟨Byt.nil, by simp⟩, Byt.nil⟩
    · exact ⟨⟨h.1.drop _, by rw [List.length_drop]; omega⟩, h.1.take _⟩
theorem pTake_le (n : Nat) (s : Rs) : (pTake n s).1.length ≤ n := by
  unfold pTake
  split
  · simp
  · split
    · simp
    · simp; omega
theorem RdTo.ok {w : World} {b : Nat} {s : Rs} {w' : World} (h : RdTo w b s w') : Rd w' b s := h.2
theorem RdTo.trans {w w1 w2 : World} {b : Nat} {s t : Rs} (h : RdTo w b s w1) (k : RdTo w1 b t w2) : RdTo w b t w2 := ⟨h.1.trans k.1 (fun _ _ h => h), k.2⟩
theorem Rd.drew {w : World} {b : Nat} {s : Rs} (h : Rd w b s) : Rd w.drew b s := h
theorem Rd.to {w : World} {b : Nat} {s : Rs} (h : Rd w b s) : RdTo w b s w := ⟨Upd.refl _ _, h⟩

theorem wbyte_any {w : World} {b : Nat} {s : Rs} (h : Rd w b s) (hs : RdOk s) :
    Calls Try.prog 17 #[.pointer (some ⟨b, 0, none⟩)] w fun e' w' => e' = .returned (.int .u8 (pByte s).1) ∧ RdTo w b (pByte s).2 w' := by
  have HT := Lib.hid (wtake_any h hs 1 (by omega))
  have hb := (hs.take 1).2
  have hle := pTake_le 1 s
  unfold pByte
  generalize pTake 1 s = r at *
  obtain ⟨o, t⟩ := r
  simp only at hb hle HT ⊢
  clear h hs
  rcases o with _ | ⟨x, o⟩
  · rw [strOf_nil] at HT
    go_enter Try.func17, Try.ntmps17
    go_wp2_with fail
    refine HT.out.mono ?_
    rintro e w' ⟨rfl, hto⟩
    have HTO := Lib.hid hto
    clear hto
    go_wp2_with fail
    go_ret
    exact ⟨rfl, HTO.out⟩
  · obtain rfl : o = [] := List.eq_nil_of_length_eq_zero (by simpa using hle)
    have hx := hb x (by simp)
    have hat : ∀ h : 0 < (strOfNums [x]).size, (((strOfNums [x])[0]'h).toNat : Int) = x := fun h => strOf_at [x] hb 0 h (by simp)
    have hz : (strOfNums [x]).size = 1 := strOfNums_size [x]
    have hl : (strOfNums [x]).toList = Lib.bytesOf [x] := strOf_list [x]
    have hne : (Lib.bytesOf [x]).isEmpty = false := rfl
    clear hb hle
    go_enter Try.func17, Try.ntmps17
    go_wp2_with fail
    refine HT.out.mono ?_
    rintro e w' ⟨rfl, hto⟩
    have HTO := Lib.hid hto
    clear hto
    go_wp2_with fail
    go_ret
    exact ⟨rfl, HTO.out⟩

theorem RdOk.byte {s : Rs} (h : RdOk s) : RdOk (pByte s).2 ∧ 0 ≤ (pByte s).1 ∧ (pByte s).1 ≤ 255 := by
  obtain ⟨h1, h2⟩ := h.take 1
  refine ⟨h1, ?_⟩
  unfold pByte
  rcases ho : (pTake 1 s).1 with _ | ⟨x, o⟩
  · simp
  · have := h2 x (by rw [ho]; simp)
    simpa using this

theorem or256 (z x : Int) (z0 : 0 ≤ z) (z1 : z * 256 + 255 < 18446744073709551616) (x0 : 0 ≤ x) (x1 : x ≤ 255) : bits .or .u64 (IntKind.u64.wrap (z * 256)) x = z * 256 + x := by
  rw [IntWalk.u64_in _ ⟨by omega, by omega⟩]
  obtain ⟨a, rfl⟩ : ∃ a : Nat, z = (a : Int) := ⟨z.toNat, by omega⟩
  obtain ⟨b, rfl⟩ : ∃ b : Nat, x = (b : Int) := ⟨x.toNat, by omega⟩
  have h := bits_or_u64_nat (a * 256) b (by omega) (by omega)
  have e : a * 256 ||| b = a * 256 + b := by
    have := Nat.two_pow_add_eq_or_of_lt (i := 8) (b := b) (by omega) a
    rw [Nat.mul_comm]
    exact this.symm
  rw [e] at h
  rw [Int.natCast_mul] at h
  exact h.trans (by omega)

set_option maxRecDepth 100000 in
set_option maxHeartbeats 4000000 in
theorem wrnum_any {w : World} {b : Nat} {s : Rs} (h : Rd w b s) (hs : RdOk s) :
    Calls Try.prog 34 #[.pointer (some ⟨b, 0, none⟩)] w fun e' w' => e' = .returned (.int .u64 (pNum s).1) ∧ RdTo w b (pNum s).2 w' := by
  have HB := Lib.hid (wbyte_any h hs)
  obtain ⟨h1, c0, c1⟩ := hs.byte
  unfold pNum
  generalize pByte s = r at *
  obtain ⟨c, t⟩ := r
  simp only at h1 c0 c1 HB ⊢
  clear h hs
  unfold pTail
  by_cases h248 : c < 248
  · rw [if_pos h248]
    go_enter Try.func34, Try.ntmps34
    go_wp2_with fail
    refine HB.out.mono ?_
    rintro e w' ⟨rfl, hto⟩
    have HTO := Lib.hid hto
    clear hto
    go_wp2_with fail
    go_ret
    exact ⟨rfl, HTO.out⟩
  · rw [if_neg h248]
    obtain ⟨m, hm⟩ : ∃ m : Nat, (m : Int) = c - 247 := ⟨(c - 247).toNat, by omega⟩
    have e1 : (c - 247).toNat = m := by omega
    rw [e1]
    have e2 : c - 248 + 1 = (m : Int) := by omega
    have HT := Lib.hid (fun (wx : World) (hx : Rd wx b t) => wtake_any hx h1 m (by omega))
    obtain ⟨t1, t2⟩ := h1.take m
    have hle := pTake_le m t
    generalize pTake m t = q at *
    obtain ⟨o, u⟩ := q
    simp only at t1 t2 hle HT ⊢
    have h9 : m ≤ 8 := by omega
    obtain ⟨rr, hrr⟩ : ∃ rr : Int × Rs, rr = (if o ≠ [] ∧ (o.headD 0 = 0 ∨ undig o < 248) then (0, ([], 4)) else (undig o, u)) := ⟨_, rfl⟩
    rw [← hrr]
    have HRR := Lib.hid hrr
    clear e1 hm hrr
    go_enter Try.func34, Try.ntmps34
    go_wp2_with fail
    refine HB.out.mono ?_
    rintro e w1 ⟨rfl, hto⟩
    have HTO := Lib.hid hto
    clear hto
    go_wp2_with fail
    refine (HT.out _ HTO.out.2).mono ?_
    rintro e w2 ⟨rfl, hto⟩
    have HTO2 := Lib.hid (HTO.out.trans hto)
    clear hto
    have hz : (strOfNums o).size = o.length := strOfNums_size o
    go_wp2_with fail
    go_loop [4, 23] (fun nn i => ∃ k : Nat, k ≤ o.length ∧ i = .int .i64 k ∧ nn = .int .u64 (undig (o.take k))) (fun _ i => o.length - (intOf i).toNat)
    case atStart => exact ⟨0, Nat.zero_le _, rfl, rfl⟩
    case round =>
      obtain ⟨k, hk, rfl, rfl⟩ := hrel
      have hub := undig_bd (o.take k) (t2.take k)
      by_cases hlt : k < o.length
      · have hat : ∀ h : k < (strOfNums o).size, (((strOfNums o)[k]'h).toNat : Int) = o[k] := fun h => strOf_at o t2 k h hlt
        have hx := t2 o[k] (List.getElem_mem hlt)
        have hsn : Hid (undig (o.take (k + 1)) = undig (o.take k) * 256 + o[k]) := by
          show _ = _
          rw [List.take_succ_eq_append_getElem hlt, undig_snoc]
        have hlt' : (k : Int) < (o.length : Int) := by omega
        generalize o[k] = x at *
        generalize undig (o.take k) = z at *
        have h256 : z * 256 + 255 < 18446744073709551616 := by
          have hk8 : (o.take k).length ≤ 7 := by rw [List.length_take]; omega
          have e := pow256 (o.take k).length
          have h2 : 256 ^ (o.take k).length ≤ 256 ^ 7 := Nat.pow_le_pow_right (by omega) hk8
          have h3 : (256 : Nat) ^ 7 = 72057594037927936 := by decide
          rw [h3] at h2
          omega
        have hor := or256 z x hub.1 h256 hx.1 hx.2
        clear hub
        go_wp2_with fail
        go_round
        case rel => exact ⟨k + 1, by omega, by go_num, by rw [hsn.out]⟩
        case measure => simp [intOf]; omega
      · have hke : k = o.length := by omega
        subst hke
        rw [List.take_of_length_le (Nat.le_refl _)] at *
        clear hlt hk
        rcases o with _ | ⟨x, o⟩
        · have hs0 : strOfNums [] = { data := #[] } := strOf_nil
          clear hub
          rw [if_neg (by simp)] at HRR
          go_wp2_with fail
          go_ret
          rw [HRR.out]
          exact ⟨rfl, HTO2.out⟩
        · have hat : ∀ h : 0 < (strOfNums (x :: o)).size, (((strOfNums (x :: o))[0]'h).toNat : Int) = x := fun h => strOf_at (x :: o) t2 0 h (by simp)
          have hl : (strOfNums (x :: o)).toList = Lib.bytesOf (x :: o) := strOf_list _
          have hne : (Lib.bytesOf (x :: o)).isEmpty = false := rfl
          have hx := t2 x (by simp)
          have HF := Lib.hid (fun wx (h : Rd wx b u) => wfail_any h 4)
          have hlen : (0 : Int) < ((x :: o).length : Int) := by rw [List.length_cons]; omega
          by_cases h0 : x = 0
          · have hif : Hid ((x :: o) ≠ [] ∧ ((x :: o).headD 0 = 0 ∨ undig (x :: o) < 248)) := ⟨by simp, .inl (by simpa using h0)⟩
            have h0' : (x == 0) = true := beq_iff_eq.2 h0
            rw [if_pos hif.out] at HRR
            generalize undig (x :: o) = z at *
            clear h0 hub
            go_wp2_with fail
            refine (HF.out _ HTO2.out.2).mono ?_
            rintro e w3 ⟨⟨v, rfl⟩, hto⟩
            have HTO3 := Lib.hid (HTO2.out.trans hto)
            clear hto
            go_wp2_with fail
            go_ret
            rw [HRR.out]
            exact ⟨rfl, HTO3.out⟩
          · have h0' : (x == 0) = false := beq_eq_false_iff_ne.2 h0
            by_cases hz : undig (x :: o) < 248
            · have hif : Hid ((x :: o) ≠ [] ∧ ((x :: o).headD 0 = 0 ∨ undig (x :: o) < 248)) := ⟨by simp, .inr hz⟩
              rw [if_pos hif.out] at HRR
              generalize undig (x :: o) = z at *
              clear h0 hub
              go_wp2_with fail
              refine (HF.out _ HTO2.out.2).mono ?_
              rintro e w3 ⟨⟨v, rfl⟩, hto⟩
              have HTO3 := Lib.hid (HTO2.out.trans hto)
              clear hto
              go_wp2_with fail
              go_ret
              rw [HRR.out]
              exact ⟨rfl, HTO3.out⟩
            · have hif : Hid (¬ ((x :: o) ≠ [] ∧ ((x :: o).headD 0 = 0 ∨ undig (x :: o) < 248))) := fun h => by
                rcases h.2 with h | h
                · exact h0 (by simpa using h)
                · exact hz h
              rw [if_neg hif.out] at HRR
              generalize undig (x :: o) = z at *
              clear h0 hub
              go_wp2_with fail
              go_ret
              rw [HRR.out]
              exact ⟨rfl, HTO2.out⟩
end Go.Proofs.Ytaielcokfpodaaa
