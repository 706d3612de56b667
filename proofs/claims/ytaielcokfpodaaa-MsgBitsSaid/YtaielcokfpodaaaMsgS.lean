/-
  Plain law of layers 2 and 3: a byte that is turned is told. Conditions: bytes.
-/
import Derived.Test.YtaielcokfpodaaaMsgR
namespace Go.Proofs.Ytaielcokfpodaaa

theorem poly_hi : (9223372036854775808 : Nat) ≤ poly ∧ poly < 18446744073709551616 := by decide
theorem xor_cancel {a b p : Nat} (h : a ^^^ p = b ^^^ p) : a = b := by
  have := congrArg (fun x => x ^^^ p) h
  simpa only [Nat.xor_assoc, Nat.xor_self, Nat.xor_zero] using this
/-- The top bit of a number below 2^64. -/
theorem top_bit (x : Nat) (h : x < 18446744073709551616) : x.testBit 63 = decide (9223372036854775808 ≤ x) := by
  rw [Nat.testBit_eq_decide_div_mod_eq]
  apply decide_eq_decide.2
  have : (2 : Nat) ^ 63 = 9223372036854775808 := by decide
  rw [this]
  omega
theorem step_hi {x : Nat} (h : x < 18446744073709551616) : (stepN x).testBit 63 = decide (x % 2 = 1) := by
  have hx : (x / 2).testBit 63 = false := by
    rw [top_bit _ (by omega)]
    exact decide_eq_false (by omega)
  unfold stepN
  by_cases hp : x % 2 = 1
  · rw [if_pos hp, Nat.testBit_xor, hx, top_bit _ poly_hi.2, decide_eq_true poly_hi.1, decide_eq_true hp]
    rfl
  · rw [if_neg hp, hx, decide_eq_false hp]
theorem stepN_inj {x y : Nat} (hx : x < 18446744073709551616) (hy : y < 18446744073709551616) (h : stepN x = stepN y) : x = y := by
  have h1 := step_hi hx
  rw [h, step_hi hy] at h1
  unfold stepN at h
  by_cases hp : x % 2 = 1
  · rw [decide_eq_true hp, decide_eq_true_eq] at h1
    rw [if_pos hp, if_pos h1] at h
    have := xor_cancel h
    omega
  · rw [decide_eq_false hp, decide_eq_false_iff_not] at h1
    rw [if_neg hp, if_neg h1] at h
    omega
theorem steps8_inj {x y : Nat} (hx : x < 18446744073709551616) (hy : y < 18446744073709551616) (h : steps8 x = steps8 y) : x = y := by
  unfold steps8 at h
  have a1 := stepN_lt _ hx
  have a2 := stepN_lt _ a1
  have a3 := stepN_lt _ a2
  have a4 := stepN_lt _ a3
  have a5 := stepN_lt _ a4
  have a6 := stepN_lt _ a5
  have a7 := stepN_lt _ a6
  have b1 := stepN_lt _ hy
  have b2 := stepN_lt _ b1
  have b3 := stepN_lt _ b2
  have b4 := stepN_lt _ b3
  have b5 := stepN_lt _ b4
  have b6 := stepN_lt _ b5
  have b7 := stepN_lt _ b6
  exact stepN_inj hx hy (stepN_inj a1 b1 (stepN_inj a2 b2 (stepN_inj a3 b3 (stepN_inj a4 b4 (stepN_inj a5 b5 (stepN_inj a6 b6 (stepN_inj a7 b7 h)))))))
theorem byte_lt {b : Int} (h : 0 ≤ b ∧ b ≤ 255) : b.toNat < 18446744073709551616 := by omega
theorem moreN_inj : ∀ (l : List Int) (x y : Nat), Byt l → x < 18446744073709551616 → y < 18446744073709551616 → moreN x l = moreN y l → x = y
  | [], _, _, _, _, _, h => h
  | b :: l, x, y, hb, hx, hy, h => by
    have hbb := hb b (by simp)
    have h1 : moreN (steps8 (x ^^^ b.toNat)) l = moreN (steps8 (y ^^^ b.toNat)) l := h
    have e1 := moreN_inj l _ _ (fun z hz => hb z (by simp [hz])) (steps8_lt _ (xor_lt hx (byte_lt hbb))) (steps8_lt _ (xor_lt hy (byte_lt hbb))) h1
    exact xor_cancel (steps8_inj (xor_lt hx (byte_lt hbb)) (xor_lt hy (byte_lt hbb)) e1)
theorem moreN_app (x : Nat) (a b : List Int) : moreN x (a ++ b) = moreN (moreN x a) b := by simp [moreN]
theorem moreN_turn {a c : List Int} {b b' : Int} {x : Nat} (hx : x < 18446744073709551616) (ha : Byt a) (hc : Byt c) (hb : 0 ≤ b ∧ b ≤ 255) (hb' : 0 ≤ b' ∧ b' ≤ 255) (h : moreN x (a ++ b :: c) = moreN x (a ++ b' :: c)) : b = b' := by
  rw [moreN_app, moreN_app] at h
  have hy := moreN_lt a ha x hx
  generalize moreN x a = y at *
  have h1 : moreN (steps8 (y ^^^ b.toNat)) c = moreN (steps8 (y ^^^ b'.toNat)) c := h
  have e1 := steps8_inj (xor_lt hy (byte_lt hb)) (xor_lt hy (byte_lt hb')) (moreN_inj c _ _ hc (steps8_lt _ (xor_lt hy (byte_lt hb))) (steps8_lt _ (xor_lt hy (byte_lt hb'))) h1)
  rw [Nat.xor_comm y, Nat.xor_comm y] at e1
  have := xor_cancel e1
  omega
theorem dig_mod (x i : Nat) : dig x i = ((x / 256 ^ i % 256 : Nat) : Int) := rfl
theorem le8_inj {x y : Nat} (hx : x < 18446744073709551616) (hy : y < 18446744073709551616) (h : le8 x = le8 y) : x = y := by
  simp only [le8, dig, List.cons.injEq, and_true, Int.natCast_inj, Nat.reducePow, Nat.div_one] at h
  omega
theorem sumB_turn {l : List Int} (hb : Byt l) {j : Nat} (hj : j < l.length) {v : Int} (hv : 0 ≤ v ∧ v ≤ 255) (h : sumB (l.set j v) = sumB l) : v = l[j] := by
  unfold sumB at h
  have lt : ∀ m, Byt m → moreN 18446744073709551615 m < 18446744073709551616 := fun m hm => moreN_lt m hm _ (by decide)
  have hset : l.set j v = l.take j ++ v :: l.drop (j + 1) := List.set_eq_take_append_cons_drop.trans (by rw [if_pos hj])
  have hself : l = l.take j ++ l[j] :: l.drop (j + 1) := by
    rw [List.getElem_cons_drop, List.take_append_drop]
  have hbs : Byt (l.set j v) := by
    rw [hset]
    exact (hb.take j).app ((hb.drop _).cons hv.1 hv.2)
  have e := le8_inj (by unfold crcN; omega) (by unfold crcN; omega) h
  unfold crcN at e
  have l1 := lt _ hbs
  have l2 := lt _ hb
  have e2 : moreN 18446744073709551615 (l.set j v) = moreN 18446744073709551615 l := by omega
  rw [hset] at e2
  have e3 : moreN 18446744073709551615 (l.take j ++ v :: l.drop (j + 1)) = moreN 18446744073709551615 (l.take j ++ l[j] :: l.drop (j + 1)) := e2.trans (congrArg (moreN 18446744073709551615) hself)
  exact moreN_turn (by decide) (hb.take j) (hb.drop _) hv (hb _ (List.getElem_mem hj)) e3
/-- A byte that is turned, behind the length, is told. -/
theorem pFrame_turn {l : List Int} (h0 : l ≠ []) (h6 : l.length ≤ 65536) (hb : Byt l) {i : Nat} (hi : (numE l.length).length ≤ i) (hi2 : i < (frameB l).length) {v : Int} (hv : 0 ≤ v ∧ v ≤ 255) (hne : v ≠ (frameB l)[i]) : pFrame ((frameB l).set i v) = ([], 0, 5) := by
  have hlen : 1 ≤ l.length := by
    rcases l with _ | ⟨x, l⟩
    · exact absurd rfl h0
    · simp
  have hs := sumB_len l
  obtain ⟨j, rfl⟩ : ∃ j, i = (numE l.length).length + j := ⟨i - (numE l.length).length, by omega⟩
  have hf : frameB l = numE l.length ++ (sumB l ++ l) := by unfold frameB; rw [List.append_assoc]
  have hset : (frameB l).set ((numE l.length).length + j) v = numE l.length ++ (sumB l ++ l).set j v := by
    rw [hf, List.set_append_right _ _ (by omega)]
    congr 2
    omega
  have hj : j < (sumB l ++ l).length := by
    rw [hf, List.length_append] at hi2
    omega
  have hne' : v ≠ (sumB l ++ l)[j] := by
    intro e
    apply hne
    rw [e]
    have h2 : (frameB l)[(numE l.length).length + j]? = (sumB l ++ l)[j]? := by
      rw [hf, List.getElem?_append_right (Nat.le_add_right _ _), Nat.add_sub_cancel_left]
    rw [List.getElem?_eq_getElem hi2, List.getElem?_eq_getElem hj] at h2
    exact (Option.some.inj h2).symm
  rw [hset]
  unfold pFrame
  rw [pNum_numE _ (by omega)]
  simp only [ne_eq, not_true_eq_false, if_false, List.length_set]
  rw [if_neg (by omega), if_neg (by simp only [List.length_append, hs, Int.toNat_natCast]; omega)]
  simp only [Int.toNat_natCast]
  rw [if_pos]
  by_cases h8 : j < 8
  · have e1 : (sumB l ++ l).set j v = (sumB l).set j v ++ l := List.set_append_left _ _ (by omega)
    have hl8 : ((sumB l).set j v).length = 8 := by rw [List.length_set, hs]
    rw [e1, ← hl8, List.drop_left, List.take_left, List.take_of_length_le (Nat.le_refl _)]
    intro e
    apply hne'
    have hjs : j < (sumB l).length := by rw [hs]; exact h8
    rw [List.getElem_append_left hjs]
    have h2 : (sumB l)[j]? = ((sumB l).set j v)[j]? := congrArg (fun m => m[j]?) e
    rw [List.getElem?_set_self hjs, List.getElem?_eq_getElem hjs] at h2
    exact (Option.some.inj h2).symm
  · obtain ⟨q, rfl⟩ : ∃ q, j = 8 + q := ⟨j - 8, by omega⟩
    have e1 : (sumB l ++ l).set (8 + q) v = sumB l ++ l.set q v := by
      rw [List.set_append_right _ _ (by omega)]
      congr 2
      omega
    have hq : q < l.length := by
      rw [List.length_append] at hj
      omega
    have e2 : (sumB l ++ l.set q v).drop 8 = l.set q v := by rw [← hs]; exact List.drop_left
    have e3 : (sumB l ++ l.set q v).take 8 = sumB l := by rw [← hs]; exact List.take_left
    rw [e1, e2, e3, List.take_of_length_le (by rw [List.length_set]; exact Nat.le_refl _)]
    intro e
    apply hne'
    rw [sumB_turn hb hq hv e, List.getElem_append_right (by omega)]
    congr 1
    omega
theorem takeM_turn {m : Ms} (hl : (insM m).length ≤ 65536) {i : Nat} (hi : (numE (insM m).length).length ≤ i) (hi2 : i < (frameB (insM m)).length) {v : Int} (hv : 0 ≤ v ∧ v ≤ 255) (hne : v ≠ (frameB (insM m))[i]) (hbyt : Byt (insM m)) : takeM ((frameB (insM m)).set i v) = (ms0 0, 5) := by
  unfold takeM
  simp only [pFrame_turn (insM_ne m) hl hbyt hi hi2 hv hne]
  rw [if_pos (by decide)]
end Go.Proofs.Ytaielcokfpodaaa
