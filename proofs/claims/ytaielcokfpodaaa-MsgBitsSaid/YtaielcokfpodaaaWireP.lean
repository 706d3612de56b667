/-
  Plain law of layer 1: numbers as bytes, and a reader. Conditions: numbers below 2^64, bytes below 256.
-/
import Derived.Test.YtaielcokfpodaaaBase
namespace Go.Proofs.Ytaielcokfpodaaa

/-- All are bytes. -/
def Byt (l : List Int) : Prop := ∀ x ∈ l, 0 ≤ x ∧ x ≤ 255
theorem Byt.nil : Byt [] := fun _ h => by simp at h
theorem Byt.app {a b : List Int} (ha : Byt a) (hb : Byt b) : Byt (a ++ b) := fun x hx => by
  rcases List.mem_append.1 hx with h | h
  · exact ha x h
  · exact hb x h
theorem Byt.cons {x : Int} {l : List Int} (h0 : 0 ≤ x) (h1 : x ≤ 255) (hl : Byt l) : Byt (x :: l) := fun y hy => by
  rcases List.mem_cons.1 hy with h | h
  · subst h; exact ⟨h0, h1⟩
  · exact hl y h
theorem Byt.drop {l : List Int} (h : Byt l) (k : Nat) : Byt (l.drop k) := fun x hx => h x (List.mem_of_mem_drop hx)
theorem Byt.take {l : List Int} (h : Byt l) (k : Nat) : Byt (l.take k) := fun x hx => h x (List.mem_of_mem_take hx)
theorem Byt.left {a b : List Int} (h : Byt (a ++ b)) : Byt a := fun x hx => h x (by simp [hx])
theorem Byt.right {a b : List Int} (h : Byt (a ++ b)) : Byt b := fun x hx => h x (by simp [hx])

/-- k digits of a number to the base 256, the great ones first. -/
def digs : Nat → Nat → List Int
  | 0, _ => []
  | k + 1, n => digs k (n / 256) ++ [((n % 256 : Nat) : Int)]
theorem digs_len : ∀ k n, (digs k n).length = k
  | 0, _ => rfl
  | k + 1, n => by simp [digs, digs_len k]
theorem digs_byt : ∀ k n, Byt (digs k n)
  | 0, _ => Byt.nil
  | k + 1, n => by
    refine (digs_byt k (n / 256)).app (fun x hx => ?_)
    simp at hx; omega

/-- How many digits a number has, from 1 on: the least k with n < 256^k, at most 8. -/
def nk (n : Nat) : Nat := if n < 256 then 1 else if n < 65536 then 2 else if n < 16777216 then 3 else if n < 4294967296 then 4 else if n < 1099511627776 then 5 else if n < 281474976710656 then 6 else if n < 72057594037927936 then 7 else 8
theorem nk_bd (n : Nat) : 1 ≤ nk n ∧ nk n ≤ 8 := by
  unfold nk
  repeat' split
  all_goals omega

/-- A number's bytes. -/
def numE (n : Nat) : List Int := if n < 248 then [(n : Int)] else (247 + (nk n : Int)) :: digs (nk n) n
theorem numE_byt (n : Nat) : Byt (numE n) := by
  unfold numE
  have := nk_bd n
  split
  · exact Byt.nil.cons (by omega) (by omega)
  · exact (digs_byt _ _).cons (by omega) (by omega)
theorem numE_len (n : Nat) : 1 ≤ (numE n).length ∧ (numE n).length ≤ 9 := by
  have := nk_bd n
  unfold numE
  split
  · simp
  · simp [digs_len]; omega

/-- The number of digits. -/
def undig (l : List Int) : Int := l.foldl (fun a x => a * 256 + x) 0
theorem undig_snoc (l : List Int) (x : Int) : undig (l ++ [x]) = undig l * 256 + x := by simp [undig]
theorem undig_digs : ∀ k n, n < 256 ^ k → undig (digs k n) = (n : Int)
  | 0, n, h => by simp at h; subst h; rfl
  | k + 1, n, h => by
    rw [digs, undig_snoc, undig_digs k (n / 256) (by rw [Nat.pow_succ] at h; exact Nat.div_lt_of_lt_mul (by omega))]
    omega
theorem undig_bd : ∀ (l : List Int), Byt l → 0 ≤ undig l ∧ undig l < 256 ^ l.length := by
  intro l
  obtain ⟨r, hr⟩ : ∃ r, r = l.reverse := ⟨_, rfl⟩
  have hl : l = r.reverse := by rw [hr, List.reverse_reverse]
  subst hl
  clear hr
  induction r with
  | nil => intro _; simp [undig]
  | cons x r ih =>
    rw [List.reverse_cons]
    intro h
    obtain ⟨i0, i1⟩ := ih h.left
    have hx := h x (by simp)
    rw [undig_snoc, List.length_append, List.length_singleton, Int.pow_succ]
    generalize (256 : Int) ^ r.reverse.length = q at *
    omega
theorem digs_undig : ∀ (l : List Int), Byt l → digs l.length (undig l).toNat = l := by
  intro l
  obtain ⟨r, hr⟩ : ∃ r, r = l.reverse := ⟨_, rfl⟩
  have hl : l = r.reverse := by rw [hr, List.reverse_reverse]
  subst hl
  clear hr
  induction r with
  | nil => intro _; rfl
  | cons x r ih =>
    rw [List.reverse_cons]
    intro h
    have hx := h x (by simp)
    have hb := undig_bd _ h.left
    rw [undig_snoc, List.length_append, List.length_singleton, digs]
    have e1 : (undig r.reverse * 256 + x).toNat / 256 = (undig r.reverse).toNat := by omega
    have e2 : (((undig r.reverse * 256 + x).toNat % 256 : Nat) : Int) = x := by omega
    rw [e1, e2, ih h.left]

/-- A reader: what is left, and the first error. -/
abbrev Rs := List Int × Int
def pTake (n : Nat) (s : Rs) : List Int × Rs := if s.2 ≠ 0 then ([], s) else if s.1.length < n then ([], ([], 3)) else (s.1.take n, (s.1.drop n, 0))
def pByte (s : Rs) : Int × Rs := ((pTake 1 s).1.headD 0, (pTake 1 s).2)
/-- What is behind the first byte of a number. -/
def pTail (c : Int) (s : Rs) : Int × Rs :=
  if c < 248 then (c, s) else
    let r := pTake (c - 247).toNat s
    if r.1 ≠ [] ∧ (r.1.headD 0 = 0 ∨ undig r.1 < 248) then (0, ([], 4)) else (undig r.1, r.2)
def pNum (s : Rs) : Int × Rs := pTail (pByte s).1 (pByte s).2

theorem nk_le {n k : Nat} (h : n < 256 ^ k) (hk : 1 ≤ k) (hk8 : k ≤ 8) : nk n ≤ k := by
  have h1 : k = 1 ∨ k = 2 ∨ k = 3 ∨ k = 4 ∨ k = 5 ∨ k = 6 ∨ k = 7 ∨ k = 8 := by omega
  unfold nk
  rcases h1 with rfl | rfl | rfl | rfl | rfl | rfl | rfl | rfl <;> simp only [Nat.reducePow] at h <;> repeat' split
  all_goals omega
theorem nk_lt (n : Nat) (h : n < 18446744073709551616) : n < 256 ^ nk n := by
  unfold nk
  repeat' split
  all_goals simp only [Nat.reducePow]; omega
theorem nk_ge {n k : Nat} (h : 256 ^ k ≤ n) (hk8 : k < 8) : k < nk n := by
  have h1 : k = 0 ∨ k = 1 ∨ k = 2 ∨ k = 3 ∨ k = 4 ∨ k = 5 ∨ k = 6 ∨ k = 7 := by omega
  unfold nk
  rcases h1 with rfl | rfl | rfl | rfl | rfl | rfl | rfl | rfl <;> simp only [Nat.reducePow] at h <;> repeat' split
  all_goals omega

theorem digs_head (k n : Nat) (h0 : n < 256 ^ (k + 1)) : (digs (k + 1) n).headD 0 = ((n / 256 ^ k : Nat) : Int) := by
  induction k generalizing n with
  | zero => simp [digs]; simp at h0; omega
  | succ k ih =>
    rw [digs]
    have hl := digs_len (k + 1) (n / 256)
    rcases hd : digs (k + 1) (n / 256) with _ | ⟨x, t⟩
    · rw [hd] at hl; simp at hl
    · have := ih (n / 256) (by rw [Nat.pow_succ] at h0; exact Nat.div_lt_of_lt_mul (by omega))
      rw [hd, List.headD_cons] at this
      rw [List.cons_append, List.headD_cons, this, Nat.div_div_eq_div_mul, Nat.pow_succ 256 k, Nat.mul_comm]

/-- What was put is read. -/
theorem pNum_numE (n : Nat) (h : n < 18446744073709551616) (rest : List Int) : pNum (numE n ++ rest, 0) = ((n : Int), (rest, 0)) := by
  have hk := nk_bd n
  unfold pNum pByte pTake numE
  by_cases hn : n < 248
  · rw [if_pos hn]
    simp [pTail]
    intro h2
    omega
  · rw [if_neg hn]
    have hl := digs_len (nk n) n
    have hlt := nk_lt n h
    have hne : digs (nk n) n ≠ [] := fun e => by rw [e] at hl; simp at hl; omega
    have e1 : (247 + (nk n : Int) - 247).toNat = nk n := by omega
    have hhd : (digs (nk n) n).headD 0 ≠ 0 := by
      obtain ⟨k, hkk⟩ : ∃ k, nk n = k + 1 := ⟨nk n - 1, by omega⟩
      rw [hkk] at hlt ⊢
      rw [digs_head k n hlt]
      have hge : 256 ^ k ≤ n := by
        rcases Nat.lt_or_ge n (256 ^ k) with h' | h'
        · rcases Nat.eq_zero_or_pos k with rfl | hp
          · simp at h'; omega
          · have := nk_le h' hp (by omega); omega
        · exact h'
      have : 0 < n / 256 ^ k := Nat.div_pos hge (Nat.pow_pos (by omega))
      omega
    have hu := undig_digs (nk n) n hlt
    simp only [List.cons_append, ne_eq, not_true_eq_false, if_false, List.length_cons, List.take_succ_cons, List.take_zero, List.headD_cons, List.drop_succ_cons, List.drop_zero, show ¬ ((digs (nk n) n ++ rest).length + 1 < 1) by omega]
    unfold pTail pTake
    rw [if_neg (show ¬ (247 + (nk n : Int) < 248) by omega)]
    simp only [e1, ne_eq, not_true_eq_false, if_false, List.length_append, hl, show ¬ (nk n + rest.length < nk n) by omega]
    have e2 : (digs (nk n) n ++ rest).take (nk n) = digs (nk n) n := List.take_left' hl
    have e3 : (digs (nk n) n ++ rest).drop (nk n) = rest := List.drop_left' hl
    rw [e2, e3, hu, if_neg]
    rintro ⟨_, h' | h'⟩
    · exact hhd h'
    · omega

/-- What a reader leaves is what was there, behind what was read. -/
theorem pTake_some {n : Nat} {l o l' : List Int} (h : pTake n (l, 0) = (o, (l', 0))) : l = o ++ l' ∧ o.length = n := by
  unfold pTake at h
  simp only [ne_eq, not_true_eq_false, if_false] at h
  split at h
  · simp at h
  · simp only [Prod.mk.injEq, and_true] at h
    obtain ⟨rfl, rfl⟩ := h
    exact ⟨(List.take_append_drop _ _).symm, by rw [List.length_take]; omega⟩
theorem pTake_err {n : Nat} {s : Rs} {o l' : List Int} {e : Int} (h : pTake n s = (o, (l', e))) (he : e ≠ 0) : o = [] := by
  unfold pTake at h
  split at h
  · simp only [Prod.mk.injEq] at h; exact h.1.symm
  · split at h
    · simp only [Prod.mk.injEq] at h; exact h.1.symm
    · simp only [Prod.mk.injEq] at h; exact absurd h.2.2.symm he
theorem pTake_ok {n : Nat} {s : Rs} {o l' : List Int} (h : pTake n s = (o, (l', 0))) : s.2 = 0 := by
  unfold pTake at h
  split at h
  · simp only [Prod.mk.injEq] at h; rw [h.2]
  · rename_i h'; simpa using h'
theorem pByte_ok {s : Rs} {c : Int} {l' : List Int} (h : pByte s = (c, (l', 0))) : s = (c :: l', 0) := by
  unfold pByte at h
  rcases ht : pTake 1 s with ⟨o, l2, e2⟩
  rw [ht] at h
  simp only [Prod.mk.injEq] at h
  obtain ⟨h1, rfl, rfl⟩ := h
  have h0 := pTake_ok ht
  obtain ⟨l, e⟩ := s
  simp only at h0
  subst h0
  obtain ⟨ha, hb⟩ := pTake_some ht
  rcases o with _ | ⟨x, o⟩
  · simp at hb
  · have : o = [] := List.eq_nil_of_length_eq_zero (by simpa using hb)
    subst this
    simp at h1
    subst h1
    rw [ha]; rfl
theorem pow256 (k : Nat) : (256 : Int) ^ k = ((256 ^ k : Nat) : Int) := by rw [Int.natCast_pow]; rfl
theorem numE_of_digs {o : List Int} (hb : Byt o) (h1 : 1 ≤ o.length) (h8 : o.length ≤ 8) (hh : o.headD 0 ≠ 0) (hn : 248 ≤ undig o) : numE (undig o).toNat = (247 + (o.length : Int)) :: o := by
  have hd := digs_undig o hb
  have hu := undig_bd o hb
  have hk : nk (undig o).toNat = o.length := by
    obtain ⟨k, hk⟩ : ∃ k, o.length = k + 1 := ⟨o.length - 1, by omega⟩
    have hlt : (undig o).toNat < 256 ^ o.length := by
      have e := pow256 o.length
      omega
    have hle := nk_le hlt h1 h8
    have hge : 256 ^ k ≤ (undig o).toNat := by
      have := digs_head k (undig o).toNat (by rw [← hk]; exact hlt)
      rw [← hk, hd] at this
      rcases Nat.lt_or_ge (undig o).toNat (256 ^ k) with h' | h'
      · rw [Nat.div_eq_of_lt h'] at this
        exact absurd this hh
      · exact h'
    have := nk_ge hge (by omega)
    omega
  unfold numE
  rw [if_neg (by omega), hk, hd]
theorem pTail_ok {c : Int} {s : Rs} {n : Int} {l' : List Int} (h : pTail c s = (n, (l', 0))) (hc : 0 ≤ c ∧ c ≤ 255) (hs : Byt s.1) (h0 : s.2 = 0) : 0 ≤ n ∧ n < 18446744073709551616 ∧ c :: s.1 = numE n.toNat ++ l' := by
  unfold pTail at h
  by_cases h248 : c < 248
  · rw [if_pos h248] at h
    simp only [Prod.mk.injEq] at h
    obtain ⟨rfl, rfl⟩ := h
    refine ⟨hc.1, by omega, ?_⟩
    unfold numE
    rw [if_pos (by omega)]
    simp
    omega
  · rw [if_neg h248] at h
    rcases ht : pTake (c - 247).toNat s with ⟨o, l2, e2⟩
    simp only [ht] at h
    by_cases hbad : o ≠ [] ∧ (o.headD 0 = 0 ∨ undig o < 248)
    · rw [if_pos hbad] at h
      simp at h
    · rw [if_neg hbad] at h
      simp only [Prod.mk.injEq] at h
      obtain ⟨rfl, rfl, rfl⟩ := h
      obtain ⟨l, e⟩ := s
      simp only at h0 hs
      subst h0
      obtain ⟨ha, hb⟩ := pTake_some ht
      have hob : Byt o := by rw [ha] at hs; exact hs.left
      have hne : o ≠ [] := fun h => by rw [h] at hb; simp at hb; omega
      have hu := undig_bd o hob
      have h8 : o.length ≤ 8 := by omega
      have hlt : (256 : Int) ^ o.length ≤ 18446744073709551616 := by
        have e := pow256 o.length
        have h2 : 256 ^ o.length ≤ 256 ^ 8 := Nat.pow_le_pow_right (by omega) h8
        have h3 : (256 : Nat) ^ 8 = 18446744073709551616 := by decide
        rw [h3] at h2
        omega
      have hg : ¬ (o.headD 0 = 0 ∨ undig o < 248) := fun h => hbad ⟨hne, h⟩
      have hE := numE_of_digs hob (by omega) h8 (fun h => hg (.inl h)) (by omega)
      refine ⟨hu.1, by omega, ?_⟩
      rw [hE, ha]
      simp only [List.cons_append, List.cons.injEq, and_true]
      omega
/-- What is read was put. -/
theorem pNum_ok {s : Rs} {n : Int} {l' : List Int} (h : pNum s = (n, (l', 0))) (hs : Byt s.1) : s.2 = 0 ∧ 0 ≤ n ∧ n < 18446744073709551616 ∧ s.1 = numE n.toNat ++ l' := by
  unfold pNum at h
  rcases hb : pByte s with ⟨c, l2, e2⟩
  rw [hb] at h
  have he : e2 = 0 := by
    unfold pTail at h
    simp only at h
    split at h
    · simp only [Prod.mk.injEq] at h; exact h.2.2
    · split at h
      · simp at h
      · simp only [Prod.mk.injEq] at h
        exact pTake_ok (show pTake (c - 247).toNat (l2, e2) = (_, (l', 0)) from Prod.ext rfl h.2)
  subst he
  have := pByte_ok hb
  subst this
  obtain ⟨a, b, c'⟩ := pTail_ok h (hs c (by simp)) (fun x hx => hs x (by simp [hx])) rfl
  exact ⟨rfl, a, b, c'⟩
end Go.Proofs.Ytaielcokfpodaaa
