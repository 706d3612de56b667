/-
  Sets of nodes as numbers: their nodes, how many there are, majorities. Plain mathematics. Conditions: numbers of a byte.
-/
import Derived.Test.YtbnmildjamjjmaaMember
namespace Go.Proofs.Ytbnmildjamjjmaa
open Go.RowKit

def has7 (s : Int) (i : Nat) : Bool := s.toNat.testBit i
def cnt (f : Nat → Bool) : Nat := ((List.range 7).filter f).length

theorem u8_val (x : Nat) (h : x < 256) : (BitVec.ofInt 8 (x : Int)).toNat = x := by simp; omega
theorem bits_and_u8 (a b : Nat) (ha : a < 256) (hb : b < 256) : bits .and .u8 (a : Int) (b : Int) = ((a &&& b : Nat) : Int) := by
  have h : a &&& b < 2 ^ 8 := Nat.and_lt_two_pow a hb
  show IntKind.u8.wrap ((BitVec.ofInt 8 (a : Int) &&& BitVec.ofInt 8 (b : Int)).toNat : Int) = _
  rw [BitVec.toNat_and, u8_val a ha, u8_val b hb]
  exact IntWalk.u8_in _ ⟨by omega, by omega⟩
theorem bits_or_u8 (a b : Nat) (ha : a < 256) (hb : b < 256) : bits .or .u8 (a : Int) (b : Int) = ((a ||| b : Nat) : Int) := by
  have h : a ||| b < 2 ^ 8 := Nat.or_lt_two_pow ha hb
  show IntKind.u8.wrap ((BitVec.ofInt 8 (a : Int) ||| BitVec.ofInt 8 (b : Int)).toNat : Int) = _
  rw [BitVec.toNat_or, u8_val a ha, u8_val b hb]
  exact IntWalk.u8_in _ ⟨by omega, by omega⟩
theorem bit127 (i : Nat) : (127 : Nat).testBit i = decide (i < 7) := by
  have := Nat.testBit_two_pow_sub_one 7 i
  simpa using this

theorem has_with {m n : Int} (m0 : 0 ≤ m) (m1 : m ≤ 255) (n0 : 0 ≤ n) (n1 : n ≤ 255) (i : Nat) : has7 (setWith m n) i = (decide (i < 7) && (has7 m i || has7 n i)) := by
  obtain ⟨a, rfl⟩ : ∃ a : Nat, m = (a : Int) := ⟨m.toNat, by omega⟩
  obtain ⟨b, rfl⟩ : ∃ b : Nat, n = (b : Int) := ⟨n.toNat, by omega⟩
  have h : a ||| b < 2 ^ 8 := Nat.or_lt_two_pow (by omega) (by omega)
  unfold has7 setWith
  rw [bits_or_u8 a b (by omega) (by omega), show (127 : Int) = ((127 : Nat) : Int) from rfl, bits_and_u8 _ 127 (by omega) (by omega)]
  simp only [Int.toNat_natCast, Nat.testBit_and, Nat.testBit_or, bit127]
  rw [Bool.and_comm]
theorem has_both {m n : Int} (m0 : 0 ≤ m) (m1 : m ≤ 255) (n0 : 0 ≤ n) (n1 : n ≤ 255) (i : Nat) : has7 (setBoth m n) i = (decide (i < 7) && (has7 m i && has7 n i)) := by
  obtain ⟨a, rfl⟩ : ∃ a : Nat, m = (a : Int) := ⟨m.toNat, by omega⟩
  obtain ⟨b, rfl⟩ : ∃ b : Nat, n = (b : Int) := ⟨n.toNat, by omega⟩
  have h : a &&& b < 2 ^ 8 := Nat.and_lt_two_pow a (by omega)
  unfold has7 setBoth
  rw [bits_and_u8 a b (by omega) (by omega), show (127 : Int) = ((127 : Nat) : Int) from rfl, bits_and_u8 _ 127 (by omega) (by omega)]
  simp only [Int.toNat_natCast, Nat.testBit_and, bit127]
  rw [Bool.and_comm]
theorem has_of_fin : ∀ n : Fin 256, ∀ i : Fin 7, has7 (setOf1 (n.val : Int)) i.val = decide (n.val = i.val) := by decide +kernel
theorem has_of {n : Int} (n0 : 0 ≤ n) (n1 : n ≤ 255) (i : Nat) (hi : i < 7) : has7 (setOf1 n) i = decide (n = (i : Int)) := by
  have := has_of_fin ⟨n.toNat, by omega⟩ ⟨i, hi⟩
  have e : ((n.toNat : Nat) : Int) = n := by omega
  simp only [e] at this
  rw [this]
  exact decide_eq_decide.2 (by omega)
theorem setOf1_bd {n : Int} (_n0 : 0 ≤ n) : 0 ≤ setOf1 n ∧ setOf1 n ≤ 255 := by
  unfold setOf1
  split
  · exact bits_bd_u8 .or _ _
  · omega
theorem len_fin : ∀ s : Fin 256, setLen (s.val : Int) = (cnt (has7 (s.val : Int)) : Int) := by decide +kernel
theorem setLen_cnt {s : Int} (h0 : 0 ≤ s) (h1 : s ≤ 255) : setLen s = (cnt (has7 s) : Int) := by
  obtain ⟨t, rfl⟩ := fin_of h0 h1
  exact len_fin t

theorem cnt_congr {f g : Nat → Bool} (h : ∀ i, i < 7 → f i = g i) : cnt f = cnt g := by
  unfold cnt
  congr 1
  exact List.filter_congr (fun i hi => h i (List.mem_range.1 hi))
theorem cnt_mono {f g : Nat → Bool} (h : ∀ i, i < 7 → f i = true → g i = true) : cnt f ≤ cnt g := by
  unfold cnt
  refine (List.Sublist.length_le ?_)
  have : (List.range 7).filter f = ((List.range 7).filter g).filter f := by
    rw [List.filter_filter]
    refine List.filter_congr (fun i hi => ?_)
    cases hf : f i
    · rfl
    · rw [h i (List.mem_range.1 hi) hf]; rfl
  rw [this]
  exact List.filter_sublist

/-- Has a set a majority of c? -/
def majF (c : Int) (f : Nat → Bool) : Bool := decide (cnt (has7 c) / 2 + 1 ≤ cnt (fun i => has7 c i && f i))
theorem setMaj_cnt {c h : Int} (c0 : 0 ≤ c) (c1 : c ≤ 255) (h0 : 0 ≤ h) (h1 : h ≤ 255) : setMaj c h = majF c (has7 h) := by
  have hb := setBoth_bd c h
  unfold setMaj majF
  rw [setLen_cnt c0 c1, setLen_cnt hb.1 hb.2, cnt_congr (f := has7 (setBoth c h)) (g := fun i => has7 c i && has7 h i) (fun i hi => by rw [has_both c0 c1 h0 h1, decide_eq_true hi]; rfl)]
  exact decide_eq_decide.2 (by omega)
theorem majF_congr {c : Int} {f g : Nat → Bool} (h : ∀ i, i < 7 → (has7 c i && f i) = (has7 c i && g i)) : majF c f = majF c g := by
  unfold majF
  rw [cnt_congr h]
theorem majF_mono {c : Int} {f g : Nat → Bool} (h : ∀ i, i < 7 → f i = true → g i = true) (hf : majF c f = true) : majF c g = true := by
  unfold majF at hf ⊢
  have := of_decide_eq_true hf
  refine decide_eq_true (Nat.le_trans this (cnt_mono fun i hi hh => ?_))
  simp only [Bool.and_eq_true] at hh ⊢
  exact ⟨hh.1, h i hi hh.2⟩

theorem snoc_ind {α : Type} {Q : List α → Prop} (h0 : Q []) (h1 : ∀ l a, Q l → Q (l ++ [a])) (l : List α) : Q l := by
  obtain ⟨n, hn⟩ : ∃ n, l.length = n := ⟨_, rfl⟩
  induction n generalizing l with
  | zero => rw [List.eq_nil_of_length_eq_zero hn]; exact h0
  | succ n ih =>
    rcases List.eq_nil_or_concat l with rfl | ⟨l', a, rfl⟩
    · exact h0
    · rw [List.concat_eq_append] at hn ⊢
      exact h1 _ _ (ih l' (by simpa using hn))

/-- Who voted. -/
def inT (T : List Int) (i : Nat) : Bool := T.any (fun n => decide (n = (i : Int)))
def someS (T : List Int) : Int := T.foldl (fun s n => setWith s (setOf1 n)) 0
def whoS (c : Int) (T : List Int) : Int := T.foldl (fun s n => setWith s (setBoth (setOf1 n) c)) 0
theorem someS_snoc (T : List Int) (n : Int) : someS (T ++ [n]) = setWith (someS T) (setOf1 n) := by simp [someS]
theorem whoS_snoc (c : Int) (T : List Int) (n : Int) : whoS c (T ++ [n]) = setWith (whoS c T) (setBoth (setOf1 n) c) := by simp [whoS]
theorem someS_bd (T : List Int) : 0 ≤ someS T ∧ someS T ≤ 255 := by
  rcases List.eq_nil_or_concat T with rfl | ⟨T, n, rfl⟩
  · simp [someS]
  · rw [List.concat_eq_append, someS_snoc]; exact setWith_bd _ _
theorem whoS_bd (c : Int) (T : List Int) : 0 ≤ whoS c T ∧ whoS c T ≤ 255 := by
  rcases List.eq_nil_or_concat T with rfl | ⟨T, n, rfl⟩
  · simp [whoS]
  · rw [List.concat_eq_append, whoS_snoc]; exact setWith_bd _ _
theorem has_zero (i : Nat) : has7 0 i = false := by simp [has7]
theorem inT_snoc (T : List Int) (n : Int) (i : Nat) : inT (T ++ [n]) i = (inT T i || decide (n = (i : Int))) := by simp [inT]

theorem someS_has (T : List Int) : (∀ n ∈ T, 0 ≤ n ∧ n ≤ 255) → ∀ i, i < 7 → has7 (someS T) i = inT T i := by
  refine snoc_ind (Q := fun T => (∀ n ∈ T, 0 ≤ n ∧ n ≤ 255) → ∀ i, i < 7 → has7 (someS T) i = inT T i) ?_ ?_ T
  · intro _ i _
    rw [show someS [] = 0 from rfl, has_zero]; rfl
  · intro T n ih hT i hi
    have hn := hT n (by simp)
    have hb := someS_bd T
    have ho := setOf1_bd hn.1
    rw [someS_snoc, has_with hb.1 hb.2 ho.1 ho.2, ih (fun m hm => hT m (by simp [hm])) i hi, has_of hn.1 hn.2 i hi, inT_snoc, decide_eq_true hi]
    rfl
theorem whoS_has {c : Int} (c0 : 0 ≤ c) (c1 : c ≤ 255) (T : List Int) : (∀ n ∈ T, 0 ≤ n ∧ n ≤ 255) → ∀ i, i < 7 → has7 (whoS c T) i = (inT T i && has7 c i) := by
  refine snoc_ind (Q := fun T => (∀ n ∈ T, 0 ≤ n ∧ n ≤ 255) → ∀ i, i < 7 → has7 (whoS c T) i = (inT T i && has7 c i)) ?_ ?_ T
  · intro _ i _
    rw [show whoS c [] = 0 from rfl, has_zero]; rfl
  · intro T n ih hT i hi
    have hn := hT n (by simp)
    have hb := whoS_bd c T
    have ho := setOf1_bd hn.1
    have hbo := setBoth_bd (setOf1 n) c
    rw [whoS_snoc, has_with hb.1 hb.2 hbo.1 hbo.2, ih (fun m hm => hT m (by simp [hm])) i hi, has_both ho.1 ho.2 c0 c1, has_of hn.1 hn.2 i hi, inT_snoc, decide_eq_true hi]
    cases inT T i <;> cases has7 c i <;> simp
theorem maj_some {c : Int} (c0 : 0 ≤ c) (c1 : c ≤ 255) (T : List Int) (hT : ∀ n ∈ T, 0 ≤ n ∧ n ≤ 255) : setMaj c (someS T) = majF c (inT T) := by
  have hb := someS_bd T
  rw [setMaj_cnt c0 c1 hb.1 hb.2]
  exact majF_congr (fun i hi => by rw [someS_has T hT i hi])
theorem maj_who {c : Int} (c0 : 0 ≤ c) (c1 : c ≤ 255) (T : List Int) (hT : ∀ n ∈ T, 0 ≤ n ∧ n ≤ 255) : setMaj c (whoS c T) = majF c (inT T) := by
  have hb := whoS_bd c T
  rw [setMaj_cnt c0 c1 hb.1 hb.2]
  exact majF_congr (fun i hi => by rw [whoS_has c0 c1 T hT i hi]; cases has7 c i <;> cases inT T i <;> rfl)
theorem inT_mono {T T' : List Int} (h : ∀ x ∈ T, x ∈ T') (i : Nat) (hi : inT T i = true) : inT T' i = true := by
  unfold inT at hi ⊢
  obtain ⟨x, hx, e⟩ := List.any_eq_true.1 hi
  exact List.any_eq_true.2 ⟨x, h x hx, e⟩

end Go.Proofs.Ytbnmildjamjjmaa
