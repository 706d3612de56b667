/-
  Plain law of layer 18: what is read was put. Conditions: bytes.
-/
import Derived.Test.YtaielcokfpodaaaMsgD
namespace Go.Proofs.Ytaielcokfpodaaa

theorem pTakeOk {n : Nat} {s : Rs} {o l' : List Int} (h : pTake n s = (o, (l', 0))) : s = (o ++ l', 0) ∧ o.length = n := by
  have h0 := pTake_ok h
  obtain ⟨l, e⟩ := s
  simp only at h0
  subst h0
  obtain ⟨h1, h2⟩ := pTake_some h
  exact ⟨by rw [h1], h2⟩
theorem pNumOk {s : Rs} {n : Int} {l' : List Int} (h : pNum s = (n, (l', 0))) (hb : Byt s.1) : s = (numE n.toNat ++ l', 0) ∧ 0 ≤ n ∧ n < 18446744073709551616 ∧ Byt l' := by
  obtain ⟨h0, h1, h2, h3⟩ := pNum_ok h hb
  refine ⟨Prod.ext h3 h0, h1, h2, ?_⟩
  rw [h3] at hb
  exact hb.right
theorem pBelowV_ok {n most : Int} {s : Rs} {x : Int} {l' : List Int} (h : pBelowV n most s = (x, (l', 0))) : x = n ∧ s = (l', 0) ∧ n ≤ most := by
  unfold pBelowV at h
  split at h
  · rename_i h1
    simp only [Prod.mk.injEq] at h
    exact absurd (by rw [h.2]) h1
  · split at h
    · simp only [Prod.mk.injEq] at h
      omega
    · simp only [Prod.mk.injEq] at h
      exact ⟨h.1.symm, h.2, by omega⟩
theorem pBelow_ok {m : Int} {s : Rs} {n : Int} {l' : List Int} (h : pBelow m s = (n, (l', 0))) (hb : Byt s.1) : s = (numE n.toNat ++ l', 0) ∧ 0 ≤ n ∧ n < m ∧ n < 18446744073709551616 ∧ Byt l' := by
  unfold pBelow at h
  rcases hn : pNum s with ⟨x, t⟩
  rw [hn] at h
  obtain ⟨rfl, rfl, h3⟩ := pBelowV_ok h
  obtain ⟨g1, g2, g3, g4⟩ := pNumOk hn hb
  exact ⟨g1, g2, by omega, g3, g4⟩
theorem pStr_ok {most : Int} {s : Rs} {x l' : List Int} (h : pStr most s = (x, (l', 0))) (hb : Byt s.1) : s = (strBy x ++ l', 0) ∧ (x.length : Int) ≤ most ∧ Byt x ∧ Byt l' := by
  unfold pStr at h
  rcases hn : pNum s with ⟨n, t⟩
  rw [hn] at h
  rcases hv : pBelowV n most t with ⟨y, u⟩
  rw [hv] at h
  simp only at h
  obtain ⟨h1, h2⟩ := pTakeOk h
  rw [h1] at hv
  obtain ⟨rfl, rfl, h3⟩ := pBelowV_ok hv
  obtain ⟨g1, g2, g3, g4⟩ := pNumOk hn hb
  refine ⟨?_, by omega, g4.left, g4.right⟩
  rw [g1]
  unfold strBy
  rw [h2, List.append_assoc]
theorem pBad_ok {s : Rs} {l' : List Int} (h : pBad s = (l', 0)) : False := pBad_err s (by rw [h])
theorem pBal_ok {s : Rs} {n r : Int} {l' : List Int} (h : pBal s = ((n, r), (l', 0))) (hb : Byt s.1) : s = (balBy n r ++ l', 0) ∧ balB n r = true ∧ (0 ≤ n ∧ n < 18446744073709551616) ∧ (0 ≤ r ∧ r ≤ 255) ∧ Byt l' := by
  unfold pBal at h
  rcases hn : pNum s with ⟨x, t⟩
  rw [hn] at h
  rcases hy : pByte t with ⟨y, u⟩
  simp only [hy] at h
  cases hbb : balB x y
  · rw [hbb] at h
    simp only [Bool.false_eq_true, if_false] at h
    rw [if_neg (pBad_err u)] at h
    simp only [Prod.mk.injEq] at h
    exact (pBad_ok h.2).elim
  · rw [hbb] at h
    simp only [if_true] at h
    split at h
    · simp only [Prod.mk.injEq] at h
      obtain ⟨⟨rfl, rfl⟩, rfl⟩ := h
      have h2 := pByte_ok hy
      subst h2
      obtain ⟨g1, g2, g3, g4⟩ := pNumOk hn hb
      refine ⟨?_, hbb, ⟨g2, g3⟩, g4 y (by simp), fun z hz => g4 z (by simp [hz])⟩
      rw [g1]
      unfold balBy
      simp
    · rename_i h1
      simp only [Prod.mk.injEq] at h
      exact absurd (by rw [h.2]) h1
theorem pCmd_ok {s : Rs} {c : Cm} {l' : List Int} (h : pCmd s = (c, (l', 0))) (hs : RdOk s) : s = (cmdBy c ++ l', 0) ∧ cmdMay c = true ∧ WfC c := by
  have hwf := hs.cmd.2.1
  rw [h] at hwf
  refine ⟨?_, ?_⟩
  all_goals unfold pCmd at h
  all_goals rcases h1 : pByte s with ⟨x1, s1⟩
  all_goals have k1 := hs.byte.1
  all_goals rw [h1] at k1
  all_goals simp only [h1] at h k1
  all_goals rcases h2 : pBelow 4294967296 s1 with ⟨x2, s2⟩
  all_goals have k2 := (k1.rbelow 4294967296 (by decide)).1
  all_goals rw [h2] at k2
  all_goals simp only [h2] at h k2
  all_goals rcases h3 : pByte s2 with ⟨x3, s3⟩
  all_goals have k3 := k2.byte.1
  all_goals rw [h3] at k3
  all_goals simp only [h3] at h k3
  all_goals rcases h4 : pStr 16 s3 with ⟨x4, s4⟩
  all_goals have k4 := (k3.str 16 (by decide)).1
  all_goals rw [h4] at k4
  all_goals simp only [h4] at h k4
  all_goals rcases h5 : pStr 64 s4 with ⟨x5, s5⟩
  all_goals have k5 := (k4.str 64 (by decide)).1
  all_goals rw [h5] at k5
  all_goals simp only [h5] at h k5
  all_goals rcases h6 : pStr 64 s5 with ⟨x6, s6⟩
  all_goals have k6 := (k5.str 64 (by decide)).1
  all_goals rw [h6] at k6
  all_goals simp only [h6] at h k6
  all_goals rcases h7 : pByte s6 with ⟨x7, s7⟩
  all_goals simp only [h7] at h
  all_goals cases hbb : cmdMay ⟨x1, x2, x3, x4, x5, x6, x7⟩
  · rw [hbb] at h
    simp only [Bool.false_eq_true, if_false] at h
    rw [if_neg (pBad_err s7)] at h
    simp only [Prod.mk.injEq] at h
    exact (pBad_ok h.2).elim
  · rw [hbb] at h
    simp only [if_true] at h
    split at h
    · simp only [Prod.mk.injEq] at h
      obtain ⟨rfl, rfl⟩ := h
      have e7 := pByte_ok h7
      subst e7
      have e6 := (pStr_ok h6 k5.1).1
      subst e6
      have e5 := (pStr_ok h5 k4.1).1
      subst e5
      have e4 := (pStr_ok h4 k3.1).1
      subst e4
      have e3 := pByte_ok h3
      subst e3
      have e2 := (pBelow_ok h2 k1.1).1
      subst e2
      have e1 := pByte_ok h1
      subst e1
      unfold cmdBy
      simp
    · rename_i hq
      simp only [Prod.mk.injEq] at h
      exact absurd (by rw [h.2]) hq
  · rw [hbb] at h
    simp only [Bool.false_eq_true, if_false] at h
    rw [if_neg (pBad_err s7)] at h
    simp only [Prod.mk.injEq] at h
    exact (pBad_ok h.2).elim
  · rw [hbb] at h
    simp only [if_true] at h
    split at h
    · simp only [Prod.mk.injEq] at h
      obtain ⟨rfl, rfl⟩ := h
      exact ⟨hbb, hwf⟩
    · rename_i hq
      simp only [Prod.mk.injEq] at h
      exact absurd (by rw [h.2]) hq
theorem RdOk.vt {s : Rs} (h : RdOk s) : RdOk (pVt s).2 ∧ WfV (pVt s).1 := by
  obtain ⟨a1, a2, a3⟩ := h.num
  obtain ⟨b1, b2, b3⟩ := a1.bal
  obtain ⟨c1, c2, c3⟩ := b1.str 65536 (by decide)
  exact ⟨c1, ⟨a2, a3⟩, b2, b3, c2, by show (pStr 65536 (pBal (pNum s).2).2).1.length ≤ _; omega⟩
theorem RdOk.it {s : Rs} (h : RdOk s) : RdOk (pIt s).2 ∧ WfI (pIt s).1 := by
  obtain ⟨a1, a2, a3⟩ := h.num
  obtain ⟨c1, c2, c3⟩ := a1.str 65536 (by decide)
  exact ⟨c1, ⟨a2, a3⟩, c2, by show (pStr 65536 (pNum s).2).1.length ≤ _; omega⟩
theorem pVt_ok {s : Rs} {v : Vt} {l' : List Int} (h : pVt s = (v, (l', 0))) (hs : RdOk s) : s = (vtBy v ++ l', 0) := by
  unfold pVt at h
  rcases h1 : pNum s with ⟨x1, s1⟩
  have k1 := hs.num.1
  rw [h1] at k1
  simp only [h1] at h k1
  rcases h2 : pBal s1 with ⟨⟨x2, y2⟩, s2⟩
  have k2 := k1.bal.1
  rw [h2] at k2
  simp only [h2] at h k2
  rcases h3 : pStr 65536 s2 with ⟨x3, s3⟩
  simp only [h3, Prod.mk.injEq] at h
  obtain ⟨rfl, rfl⟩ := h
  have e3 := (pStr_ok h3 k2.1).1
  subst e3
  have e2 := (pBal_ok h2 k1.1).1
  subst e2
  have e1 := (pNumOk h1 hs.1).1
  subst e1
  unfold vtBy
  simp
theorem pIt_ok {s : Rs} {v : It} {l' : List Int} (h : pIt s = (v, (l', 0))) (hs : RdOk s) : s = (itBy v ++ l', 0) := by
  unfold pIt at h
  rcases h1 : pNum s with ⟨x1, s1⟩
  have k1 := hs.num.1
  rw [h1] at k1
  simp only [h1] at h k1
  rcases h3 : pStr 65536 s1 with ⟨x3, s3⟩
  simp only [h3, Prod.mk.injEq] at h
  obtain ⟨rfl, rfl⟩ := h
  have e3 := (pStr_ok h3 k1.1).1
  subst e3
  have e1 := (pNumOk h1 hs.1).1
  subst e1
  unfold itBy
  simp
theorem pVts_ok : ∀ (n : Nat) (acc : List Vt) (s : Rs) (a' : List Vt) (l' : List Int), pVts n (acc, s) = (a', (l', 0)) → RdOk s → ∃ vs, a' = acc ++ vs ∧ vs.length = n ∧ s = (vs.flatMap vtBy ++ l', 0) ∧ ∀ v ∈ vs, WfV v
  | 0, acc, s, a', l', h, _ => by
    simp only [pVts, Prod.mk.injEq] at h
    exact ⟨[], by simp [h.1], rfl, by simp [h.2], by simp⟩
  | n + 1, acc, s, a', l', h, hs => by
    rw [pVts] at h
    simp only at h
    split at h
    · rcases hv : pVt s with ⟨v, s1⟩
      have k1 := hs.vt
      rw [hv] at h k1
      simp only at h k1
      obtain ⟨vs, e1, e2, e3, e4⟩ := pVts_ok n _ _ _ _ h k1.1
      subst e3
      have e5 := pVt_ok hv hs
      refine ⟨v :: vs, by rw [e1]; simp, by simp [e2], by rw [e5]; simp, fun x hx => ?_⟩
      rcases List.mem_cons.1 hx with rfl | hx
      · exact k1.2
      · exact e4 x hx
    · rename_i hq
      simp only [Prod.mk.injEq] at h
      exact absurd (by rw [h.2]) hq
theorem pIts_ok : ∀ (n : Nat) (acc : List It) (s : Rs) (a' : List It) (l' : List Int), pIts n (acc, s) = (a', (l', 0)) → RdOk s → ∃ vs, a' = acc ++ vs ∧ vs.length = n ∧ s = (vs.flatMap itBy ++ l', 0) ∧ ∀ v ∈ vs, WfI v
  | 0, acc, s, a', l', h, _ => by
    simp only [pIts, Prod.mk.injEq] at h
    exact ⟨[], by simp [h.1], rfl, by simp [h.2], by simp⟩
  | n + 1, acc, s, a', l', h, hs => by
    rw [pIts] at h
    simp only at h
    split at h
    · rcases hv : pIt s with ⟨v, s1⟩
      have k1 := hs.it
      rw [hv] at h k1
      simp only at h k1
      obtain ⟨vs, e1, e2, e3, e4⟩ := pIts_ok n _ _ _ _ h k1.1
      subst e3
      have e5 := pIt_ok hv hs
      refine ⟨v :: vs, by rw [e1]; simp, by simp [e2], by rw [e5]; simp, fun x hx => ?_⟩
      rcases List.mem_cons.1 hx with rfl | hx
      · exact k1.2
      · exact e4 x hx
    · rename_i hq
      simp only [Prod.mk.injEq] at h
      exact absurd (by rw [h.2]) hq

/-! How many are read. -/
theorem pTake_err_nil {n : Nat} {s : Rs} (h0 : s.2 = 0) (h : (pTake n s).2.2 ≠ 0) : (pTake n s).2.1 = [] := by
  unfold pTake at *
  rw [if_neg (by simpa using h0)] at *
  split
  · rfl
  · rename_i h1
    rw [if_neg h1] at h
    exact absurd rfl h
/-- An error leaves no bytes. -/
def Gone (s : Rs) : Prop := s.2 ≠ 0 → s.1 = []
theorem Gone.take {s : Rs} (h : Gone s) (n : Nat) : Gone (pTake n s).2 := by
  intro he
  by_cases h0 : s.2 = 0
  · exact pTake_err_nil h0 he
  · unfold pTake
    rw [if_pos h0]
    exact h h0
theorem Gone.byte {s : Rs} (h : Gone s) : Gone (pByte s).2 := h.take 1
theorem Gone.num {s : Rs} (h : Gone s) : Gone (pNum s).2 := by
  have h1 := h.byte
  unfold pNum pTail
  split
  · exact h1
  · have h2 := h1.take ((pByte s).1 - 247).toNat
    simp only
    split
    · exact fun _ => rfl
    · exact h2
theorem Gone.belowV {s : Rs} (h : Gone s) (n most : Int) : Gone (pBelowV n most s).2 := by
  unfold pBelowV
  split
  · exact h
  · split
    · exact fun _ => rfl
    · exact h
theorem Gone.str {s : Rs} (h : Gone s) (most : Int) : Gone (pStr most s).2 := (h.num.belowV _ _).take _
theorem Gone.bad {s : Rs} (h : Gone s) : Gone (pBad s) := by
  unfold pBad
  split
  · exact fun _ => rfl
  · exact h
theorem Gone.bal {s : Rs} (h : Gone s) : Gone (pBal s).2 := by
  have h1 := h.num.byte
  have h2 := h1.bad
  unfold pBal
  simp only
  cases balB (pNum s).1 (pByte (pNum s).2).1
  · simp only [Bool.false_eq_true, if_false]
    split
    · exact h2
    · exact h2
  · simp only [if_true]
    split
    · exact h1
    · exact h1
theorem Gone.vt {s : Rs} (h : Gone s) : Gone (pVt s).2 := h.num.bal.str _
theorem Gone.it {s : Rs} (h : Gone s) : Gone (pIt s).2 := h.num.str _
/-- One more that is read costs a byte, or is the last one. -/
theorem vt_cost {s : Rs} (hs : RdOk s) (hg : Gone s) : (pVt s).2.1.length + 1 ≤ s.1.length ∨ (pVt s).2.1 = [] := by
  by_cases h : (pVt s).2.2 = 0
  · rcases hv : pVt s with ⟨v, l', e⟩
    rw [hv] at h
    simp only at h
    subst h
    have := pVt_ok hv hs
    rw [this]
    have h1 := numE_len v.slot.toNat
    left
    unfold vtBy
    simp only [List.length_append]
    omega
  · exact .inr (hg.vt h)
theorem it_cost {s : Rs} (hs : RdOk s) (hg : Gone s) : (pIt s).2.1.length + 1 ≤ s.1.length ∨ (pIt s).2.1 = [] := by
  by_cases h : (pIt s).2.2 = 0
  · rcases hv : pIt s with ⟨v, l', e⟩
    rw [hv] at h
    simp only at h
    subst h
    have := pIt_ok hv hs
    rw [this]
    have h1 := numE_len v.slot.toNat
    left
    unfold itBy
    simp only [List.length_append]
    omega
  · exact .inr (hg.it h)
end Go.Proofs.Ytaielcokfpodaaa
