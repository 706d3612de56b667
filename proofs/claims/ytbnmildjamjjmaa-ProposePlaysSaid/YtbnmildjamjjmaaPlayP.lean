/-
  ProposePlays: the plain law. The reference's desk and the program's go alike. Plain mathematics. Conditions: none.
-/
import Derived.Test.YtbnmildjamjjmaaRefDsk
import Derived.Test.YtbnmildjamjjmaaPropF
namespace Go.Proofs.Ytbnmildjamjjmaa
open Go.RowKit

/-- An open slot of the reference, as a value. -/
structure PX where
  slot : Int
  val : ByteArray
  cfg : List Int
  who : List Int
def RX.px (x : RX) : PX := ⟨x.slot, x.val, x.cfg, x.who⟩
def hitX (n s : Int) (x : PX) : Bool := x.slot == s && (decide (n ∈ x.cfg) && !decide (n ∈ x.who))
def majX (a b : List Int) : Bool := decide ((a.length : Int) < 2 * ((pickL a b true).length : Int))
def addX (n : Int) (x : PX) : PX := ⟨x.slot, x.val, x.cfg, x.who ++ [n]⟩
def decX (n s : Int) (x : PX) : Bool := hitX n s x && majX x.cfg (x.who ++ [n])
def stepX (n s : Int) (x : PX) : PX := if hitX n s x then addX n x else x
def closeX (P : List PX) (s : Int) : List PX := P.filter fun x => x.slot != s
/-- What a vote makes of the reference's open slots, what it answers. -/
def votedX (P : List PX) (n s : Int) : List PX × (Int × ByteArray) × Bool :=
  match P.find? (decX n s) with
  | some o => (closeX P s, (s, o.val), true)
  | none => (P.map (stepX n s), (0, ByteArray.empty), false)

theorem listK_fin : ∀ s : Fin 128, listK (s.val : Int) 7 = ((List.range 7).filter (has7 (s.val : Int))).map (fun i : Nat => (i : Int)) := by decide +kernel
theorem listK_eq {s : Int} (h0 : 0 ≤ s) (h1 : s < 128) : listK s 7 = ((List.range 7).filter (has7 s)).map (fun i : Nat => (i : Int)) := by
  have := listK_fin ⟨s.toNat, by omega⟩
  have e : ((s.toNat : Nat) : Int) = s := by omega
  simpa only [e] using this
theorem mem_listK {s : Int} (h0 : 0 ≤ s) (h1 : s < 128) (n : Int) : n ∈ listK s 7 ↔ ∃ i : Nat, i < 7 ∧ has7 s i = true ∧ n = (i : Int) := by
  rw [listK_eq h0 h1, List.mem_map]
  constructor
  · rintro ⟨i, hi, rfl⟩
    obtain ⟨h2, h3⟩ := List.mem_filter.1 hi
    exact ⟨i, List.mem_range.1 h2, h3, rfl⟩
  · rintro ⟨i, h2, h3, rfl⟩
    exact ⟨i, List.mem_filter.2 ⟨List.mem_range.2 h2, h3⟩, rfl⟩
theorem setK_fin : ∀ b0 b1 b2 b3 b4 b5 b6 : Bool, ∀ i : Fin 7, has7 (((((((0 + if b0 then 2 ^ 0 else 0) + if b1 then 2 ^ 1 else 0) + if b2 then 2 ^ 2 else 0) + if b3 then 2 ^ 3 else 0) + if b4 then 2 ^ 4 else 0) + if b5 then 2 ^ 5 else 0) + if b6 then 2 ^ 6 else 0) i.val = [b0, b1, b2, b3, b4, b5, b6][i.val]! := by decide +kernel
theorem setK_has (T : List Int) (i : Nat) (hi : i < 7) : has7 (setK T 7) i = decide ((i : Int) ∈ T) := by
  have h := setK_fin (decide (((0 : Nat) : Int) ∈ T)) (decide (((1 : Nat) : Int) ∈ T)) (decide (((2 : Nat) : Int) ∈ T)) (decide (((3 : Nat) : Int) ∈ T)) (decide (((4 : Nat) : Int) ∈ T)) (decide (((5 : Nat) : Int) ∈ T)) (decide (((6 : Nat) : Int) ∈ T)) ⟨i, hi⟩
  simp only [decide_eq_true_eq] at h
  have e : setK T 7 = ((((((0 + if ((0 : Nat) : Int) ∈ T then 2 ^ 0 else 0) + if ((1 : Nat) : Int) ∈ T then 2 ^ 1 else 0) + if ((2 : Nat) : Int) ∈ T then 2 ^ 2 else 0) + if ((3 : Nat) : Int) ∈ T then 2 ^ 3 else 0) + if ((4 : Nat) : Int) ∈ T then 2 ^ 4 else 0) + if ((5 : Nat) : Int) ∈ T then 2 ^ 5 else 0) + if ((6 : Nat) : Int) ∈ T then 2 ^ 6 else 0 := rfl
  rw [e, h]
  match i, hi with
  | 0, _ => rfl
  | 1, _ => rfl
  | 2, _ => rfl
  | 3, _ => rfl
  | 4, _ => rfl
  | 5, _ => rfl
  | 6, _ => rfl
theorem setK_lt (T : List Int) : 0 ≤ setK T 7 ∧ setK T 7 < 128 := by
  have := setK_bd T 7
  have h : (2 : Int) ^ 7 = 128 := by decide
  omega
theorem has_ext {a b : Int} (a0 : 0 ≤ a) (a1 : a < 128) (b0 : 0 ≤ b) (b1 : b < 128) (h : ∀ i, i < 7 → has7 a i = has7 b i) : a = b := by
  have : a.toNat = b.toNat := by
    refine Nat.eq_of_testBit_eq fun i => ?_
    by_cases hi : i < 7
    · exact h i hi
    · have hp : (128 : Nat) ≤ 2 ^ i := by
        calc 128 = 2 ^ 7 := by decide
          _ ≤ 2 ^ i := Nat.pow_le_pow_right (by omega) (by omega)
      rw [Nat.testBit_lt_two_pow (by omega), Nat.testBit_lt_two_pow (by omega)]
  omega
theorem setK_listK {s : Int} (h0 : 0 ≤ s) (h1 : s < 128) : setK (listK s 7) 7 = s := by
  have hb := setK_lt (listK s 7)
  refine has_ext hb.1 hb.2 h0 h1 fun i hi => ?_
  rw [setK_has _ i hi, Bool.eq_iff_iff, decide_eq_true_iff, mem_listK h0 h1]
  constructor
  · rintro ⟨j, _, h3, e⟩
    obtain rfl : i = j := by omega
    exact h3
  · intro h3
    exact ⟨i, hi, h3, rfl⟩
theorem majX_majF {c : Int} (h0 : 0 ≤ c) (h1 : c < 128) (T : List Int) : majX (listK c 7) T = majF c (fun i => decide ((i : Int) ∈ T)) := by
  unfold majX majF pickL cnt
  rw [listK_eq h0 h1, List.filter_map, List.length_map, List.length_map, List.filter_filter]
  have : (List.range 7).filter (fun a => ((fun x => decide (x ∈ T) == true) ∘ fun i : Nat => (i : Int)) a && has7 c a) = (List.range 7).filter (fun i => has7 c i && decide ((i : Int) ∈ T)) := by
    refine List.filter_congr fun i _ => ?_
    simp only [Function.comp]
    cases has7 c i <;> cases decide ((i : Int) ∈ T) <;> rfl
  rw [this]
  show decide (_ < 2 * ((List.filter (fun i : Nat => has7 c i && decide ((i : Int) ∈ T)) (List.range 7)).length : Int)) = decide (_ ≤ (List.filter (fun i : Nat => has7 c i && decide ((i : Int) ∈ T)) (List.range 7)).length)
  exact decide_eq_decide.2 (by omega)

/-- An open slot of the program and one of the reference. -/
structure RelO (o : PO) (x : PX) : Prop where
  slot : o.slot = x.slot
  val : o.val = x.val
  c0 : 0 ≤ o.cfg
  c1 : o.cfg < 128
  cfg : x.cfg = listK o.cfg 7
  who : o.who = setK x.who 7
  maj : majX x.cfg x.who = false
def RelL : List PO → List PX → Prop
  | [], [] => True
  | o :: M, x :: P => RelO o x ∧ RelL M P
  | _, _ => False
theorem RelL.len : ∀ {M : List PO} {P : List PX}, RelL M P → M.length = P.length
  | [], [], _ => rfl
  | _ :: _, _ :: _, h => by simp [RelL.len h.2]
  | [], _ :: _, h => h.elim
  | _ :: _, [], h => h.elim
theorem RelL.at_ : ∀ {M : List PO} {P : List PX}, RelL M P → ∀ (k : Nat) (h1 : k < M.length) (h2 : k < P.length), RelO M[k] P[k]
  | [], [], _, k, h1, _ => absurd h1 (by simp)
  | _ :: _, _ :: _, h, 0, _, _ => h.1
  | _ :: _, _ :: _, h, k + 1, h1, h2 => RelL.at_ h.2 k (by simpa using h1) (by simpa using h2)
  | [], _ :: _, h, _, _, _ => h.elim
  | _ :: _, [], h, _, _, _ => h.elim
theorem RelL.left : ∀ {M : List PO} {P : List PX}, RelL M P → ∀ o ∈ M, ∃ x ∈ P, RelO o x
  | [], _, _, _, ho => absurd ho (by simp)
  | a :: M, x :: P, h, o, ho => by
    rcases List.mem_cons.1 ho with rfl | ho
    · exact ⟨x, by simp, h.1⟩
    · obtain ⟨y, hy, hr⟩ := RelL.left h.2 o ho
      exact ⟨y, by simp [hy], hr⟩
  | _ :: _, [], h, _, _ => h.elim
theorem RelL.right : ∀ {M : List PO} {P : List PX}, RelL M P → ∀ x ∈ P, ∃ o ∈ M, RelO o x
  | _, [], _, _, ho => absurd ho (by simp)
  | a :: M, x :: P, h, y, hy => by
    rcases List.mem_cons.1 hy with rfl | hy
    · exact ⟨a, by simp, h.1⟩
    · obtain ⟨o, ho, hr⟩ := RelL.right h.2 y hy
      exact ⟨o, by simp [ho], hr⟩
  | [], _ :: _, h, _, _ => h.elim
theorem RelL.map : ∀ {M : List PO} {P : List PX}, RelL M P → ∀ (f : PO → PO) (g : PX → PX), (∀ o ∈ M, ∀ x ∈ P, RelO o x → RelO (f o) (g x)) → RelL (M.map f) (P.map g)
  | [], [], _, _, _, _ => trivial
  | o :: M, x :: P, h, f, g, hh => ⟨hh o (by simp) x (by simp) h.1, RelL.map h.2 f g (fun a ha b hb => hh a (by simp [ha]) b (by simp [hb]))⟩
  | [], _ :: _, h, _, _, _ => h.elim
  | _ :: _, [], h, _, _, _ => h.elim
theorem RelL.snoc : ∀ {M : List PO} {P : List PX}, RelL M P → ∀ {o : PO} {x : PX}, RelO o x → RelL (M ++ [o]) (P ++ [x])
  | [], [], _, _, _, h => ⟨h, trivial⟩
  | _ :: _, _ :: _, h, _, _, hr => ⟨h.1, RelL.snoc h.2 hr⟩
  | [], _ :: _, h, _, _, _ => h.elim
  | _ :: _, [], h, _, _, _ => h.elim
theorem RelL.close : ∀ {M : List PO} {P : List PX}, RelL M P → ∀ s : Int, RelL (closeM M s) (closeX P s)
  | [], [], _, _ => trivial
  | o :: M, x :: P, h, s => by
    have ih := RelL.close h.2 s
    unfold closeM closeX at ih ⊢
    rw [List.filter_cons, List.filter_cons]
    have e := h.1.slot
    by_cases hs : o.slot = s
    · have hs2 : x.slot = s := by rw [← e]; exact hs
      simpa [hs, hs2] using ih
    · have hs2 : x.slot ≠ s := by rw [← e]; exact hs
      simp only [bne_iff_ne, ne_eq, hs2, not_false_eq_true, if_true, beq_eq_false_iff_ne.2 hs, Bool.not_false]
      exact ⟨h.1, ih⟩
  | [], _ :: _, h, _ => h.elim
  | _ :: _, [], h, _ => h.elim

theorem relO_bits {o : PO} {x : PX} (h : RelO o x) : (0 ≤ o.who ∧ o.who < 128) ∧ ∀ i, i < 7 → has7 o.who i = decide ((i : Int) ∈ x.who) := by
  rw [h.who]
  exact ⟨setK_lt _, fun i hi => setK_has _ i hi⟩
theorem voted_bits {o : PO} {x : PX} (h : RelO o x) {n : Int} (n0 : 0 ≤ n) (n1 : n ≤ 255) (i : Nat) (hi : i < 7) :
    has7 (votedO o n).who i = (decide ((i : Int) ∈ x.who) || (decide (n = (i : Int)) && decide ((i : Int) ∈ x.cfg))) := by
  obtain ⟨⟨w0, w1⟩, hw⟩ := relO_bits h
  have ho := setOf1_bd n0
  have hbo := setBoth_bd (setOf1 n) o.cfg
  have c0 := h.c0
  have c1 := h.c1
  show has7 (setWith o.who (setBoth (setOf1 n) o.cfg)) i = _
  rw [has_with w0 (by omega) hbo.1 hbo.2, has_both ho.1 ho.2 c0 (by omega), has_of n0 n1 i hi, hw i hi, decide_eq_true hi, Bool.true_and, Bool.true_and]
  congr 2
  rw [Bool.eq_iff_iff, decide_eq_true_iff, h.cfg, mem_listK c0 c1]
  constructor
  · intro h3; exact ⟨i, hi, h3, rfl⟩
  · rintro ⟨j, _, h3, e⟩
    obtain rfl : i = j := by omega
    exact h3
theorem setWith_lt (a b : Int) : 0 ≤ setWith a b ∧ setWith a b < 128 := by
  have h : ∀ x : Int, 0 ≤ bits .and .u8 x 127 ∧ bits .and .u8 x 127 < 128 := by
    intro x
    have hb := bits_bd_u8 .and x 127
    refine ⟨hb.1, ?_⟩
    show IntKind.u8.wrap ((BitVec.ofInt 8 x &&& BitVec.ofInt 8 127).toNat : Int) < 128
    rw [BitVec.toNat_and]
    have h2 : (BitVec.ofInt 8 x).toNat &&& (BitVec.ofInt 8 127).toNat ≤ (BitVec.ofInt 8 127).toNat := Nat.and_le_right
    have h3 : (BitVec.ofInt 8 127).toNat = 127 := by decide
    rw [h3] at h2 ⊢
    rw [IntWalk.u8_in _ ⟨by omega, by omega⟩]
    omega
  exact h _
/-- A vote on one open slot. -/
theorem relO_step {o : PO} {x : PX} (h : RelO o x) {n : Int} (n0 : 0 ≤ n) (n1 : n ≤ 255) :
    setMaj o.cfg (votedO o n).who = decX n x.slot x ∧ (decX n x.slot x = false → RelO (votedO o n) (stepX n x.slot x)) := by
  have hb := voted_bits h n0 n1
  obtain ⟨⟨w0, w1⟩, hw⟩ := relO_bits h
  have c0 := h.c0
  have c1 := h.c1
  have hv : 0 ≤ (votedO o n).who ∧ (votedO o n).who < 128 := setWith_lt _ _
  have hm : setMaj o.cfg (votedO o n).who = majF o.cfg (has7 (votedO o n).who) := setMaj_cnt c0 (by omega) hv.1 (by omega)
  cases hh : hitX n x.slot x
  · have hsame : (votedO o n).who = o.who := by
      refine has_ext hv.1 hv.2 w0 w1 fun i hi => ?_
      rw [hb i hi, hw i hi]
      unfold hitX at hh
      simp only [BEq.rfl, Bool.true_and] at hh
      by_cases e : n = (i : Int)
      · subst e
        revert hh
        cases decide ((i : Int) ∈ x.cfg) <;> cases decide ((i : Int) ∈ x.who) <;> simp
      · simp [e]
    have hd : decX n x.slot x = false := by unfold decX; rw [hh]; rfl
    have hst : stepX n x.slot x = x := by unfold stepX; rw [hh]; rfl
    have hvo : votedO o n = o := by
      obtain ⟨a, b, c, d⟩ := o
      show PO.mk a b c _ = _
      congr 1
    rw [hd, hst, hvo]
    refine ⟨?_, fun _ => h⟩
    rw [hvo] at hm
    rw [hm, ← h.maj, h.cfg, majX_majF c0 c1]
    exact majF_congr fun i hi => by rw [hw i hi]
  · have hsame : (votedO o n).who = setK (x.who ++ [n]) 7 := by
      have hk := setK_lt (x.who ++ [n])
      refine has_ext hv.1 hv.2 hk.1 hk.2 fun i hi => ?_
      rw [hb i hi, setK_has _ i hi]
      unfold hitX at hh
      simp only [BEq.rfl, Bool.true_and, Bool.and_eq_true, decide_eq_true_eq] at hh
      by_cases e : n = (i : Int)
      · subst e
        simp [hh.1]
      · have e' : ¬ (i : Int) = n := fun h => e h.symm
        simp [e, e']
    have hd : decX n x.slot x = majX x.cfg (x.who ++ [n]) := by unfold decX; rw [hh]; rfl
    have hst : stepX n x.slot x = addX n x := by unfold stepX; rw [hh]; rfl
    have hmm : setMaj o.cfg (votedO o n).who = majX x.cfg (x.who ++ [n]) := by
      rw [hm, h.cfg, majX_majF c0 c1, hsame]
      exact majF_congr fun i hi => by rw [setK_has _ i hi]
    rw [hd, hst]
    exact ⟨hmm, fun hf => ⟨h.slot, h.val, c0, c1, h.cfg, hsame, hf⟩⟩

theorem rising_uniq {M : List PO} (h : M.Pairwise (fun a b => a.slot < b.slot)) {a b : PO} (ha : a ∈ M) (hb : b ∈ M) (he : a.slot = b.slot) : a = b := by
  induction M with
  | nil => cases ha
  | cons x M ih =>
    obtain ⟨h1, h2⟩ := List.pairwise_cons.1 h
    rcases List.mem_cons.1 ha with e1 | ha <;> rcases List.mem_cons.1 hb with e2 | hb
    · rw [e1, e2]
    · have := h1 b hb; rw [e1] at he; omega
    · have := h1 a ha; rw [e2] at he; omega
    · exact ih h2 ha hb
/-- A vote on both desks. -/
theorem RelL.vote {M : List PO} {P : List PX} (h : RelL M P) (hr : Rising M) {n : Int} (n0 : 0 ≤ n) (n1 : n ≤ 255) (s : Int) :
    RelL (votedP M n s).1 (votedX P n s).1 ∧ (votedP M n s).2 = (votedX P n s).2 := by
  unfold votedP votedX
  cases hf : M.find? (fun o => o.slot == s) with
  | none =>
    have hno : ∀ x ∈ P, x.slot ≠ s := fun x hx => by
      obtain ⟨o, ho, hro⟩ := h.right x hx
      have := List.find?_eq_none.1 hf o ho
      rw [← hro.slot]
      simpa using this
    have hn : P.find? (decX n s) = none := List.find?_eq_none.2 fun x hx => by
      have := hno x hx
      simp [decX, hitX, this]
    have hm : P.map (stepX n s) = P := by
      have : P.map (stepX n s) = P.map id := List.map_congr_left fun x hx => by
        have := hno x hx
        simp [stepX, hitX, this]
      rw [this, List.map_id]
    rw [hn]
    simp only [hm]
    exact ⟨h, trivial⟩
  | some o =>
    have ho := List.mem_of_find?_eq_some hf
    have hs : o.slot = s := by simpa using List.find?_some hf
    obtain ⟨x, hx, hro⟩ := h.left o ho
    have hxs : x.slot = s := by rw [← hro.slot]; exact hs
    obtain ⟨hd, hst⟩ := relO_step hro n0 n1
    rw [hxs] at hd hst
    simp only [hd]
    have hone : ∀ y ∈ P, y.slot = s → decX n s y = true → y.val = o.val ∧ decX n s x = true := by
      intro y hy hys hyd
      obtain ⟨o2, ho2, hro2⟩ := h.right y hy
      obtain rfl : o2 = o := rising_uniq hr.1 ho2 ho (by rw [hro2.slot, hys, hs])
      refine ⟨hro2.val.symm, ?_⟩
      have := (relO_step hro2 n0 n1).1
      rw [hys] at this
      rw [← hd, this, hyd]
    cases hdx : decX n s x
    · have hn : P.find? (decX n s) = none := List.find?_eq_none.2 fun y hy hyd => by
        have hys : y.slot = s := by
          unfold decX hitX at hyd
          simp only [Bool.and_eq_true, beq_iff_eq] at hyd
          exact hyd.1.1
        have := (hone y hy hys hyd).2
        rw [hdx] at this
        cases this
      rw [hn]
      refine ⟨?_, rfl⟩
      simp only [Bool.false_eq_true, if_false]
      refine h.map _ _ fun a ha b hb hab => ?_
      by_cases e : a.slot = s
      · obtain rfl : a = o := rising_uniq hr.1 ha ho (by rw [e, hs])
        have e2 : a.slot = (votedO a n).slot := rfl
        rw [if_pos e2]
        have hbs : b.slot = s := by rw [← hab.slot]; exact e
        have h1 := relO_step hab n0 n1
        rw [hbs] at h1
        refine h1.2 ?_
        rw [← h1.1, hd, hdx]
      · have e2 : ¬ a.slot = (votedO o n).slot := fun h => e (h.trans hs)
        rw [if_neg e2]
        have hbs : b.slot ≠ s := by rw [← hab.slot]; exact e
        have : stepX n s b = b := by simp [stepX, hitX, hbs]
        rw [this]
        exact hab
    · obtain ⟨y, hy⟩ : ∃ y, P.find? (decX n s) = some y := by
        cases hn : P.find? (decX n s) with
        | none => exact absurd hdx (List.find?_eq_none.1 hn x hx)
        | some y => exact ⟨y, rfl⟩
      have hyd := List.find?_some hy
      have hym := List.mem_of_find?_eq_some hy
      have hys : y.slot = s := by
        unfold decX hitX at hyd
        simp only [Bool.and_eq_true, beq_iff_eq] at hyd
        exact hyd.1.1
      rw [hy]
      simp only [if_true]
      exact ⟨h.close s, by rw [(hone y hym hys hyd).1]⟩

theorem dir_fin : ∀ c : Fin 256, decide (setLen (c.val : Int) = 0 ∨ setWith (c.val : Int) 0 ≠ (c.val : Int)) = !dirB (c.val : Int) := by decide +kernel
theorem openBad_dir {slot cfg : Int} (s0 : 0 ≤ slot) (c0 : 0 ≤ cfg) (c1 : cfg ≤ 255) : openBad slot cfg = true ↔ (slot < 1 ∨ 4611686018427387904 < slot ∨ dirB cfg = false) := by
  obtain ⟨t, rfl⟩ := fin_of c0 c1
  have h := dir_fin t
  unfold openBad
  rw [decide_eq_true_iff]
  have h2 : (setLen (t.val : Int) = 0 ∨ setWith (t.val : Int) 0 ≠ (t.val : Int)) ↔ dirB (t.val : Int) = false := by
    rw [← decide_eq_true_iff (p := _ ∨ _), h]
    cases dirB (t.val : Int) <;> simp
  rw [← h2]
  constructor
  · rintro (h | h | h | h)
    · exact .inl (by omega)
    · exact .inr (.inl h)
    · exact .inr (.inr (.inl h))
    · exact .inr (.inr (.inr h))
  · rintro (h | h | h | h)
    · exact .inl (by omega)
    · exact .inr (.inl h)
    · exact .inr (.inr (.inl h))
    · exact .inr (.inr (.inr h))

def openX (P : List PX) (last slot : Int) (v : ByteArray) (cfg : Int) : List PX := if openE slot cfg last = 0 then P ++ [⟨slot, v, listK cfg 7, []⟩] else P
theorem RelL.open_ {M : List PO} {P : List PX} (h : RelL M P) {last slot cfg : Int} (v : ByteArray) (s0 : 0 ≤ slot) (c0 : 0 ≤ cfg) (c1 : cfg ≤ 255) : RelL (openM M last slot v cfg) (openX P last slot v cfg) := by
  unfold openM openX
  by_cases e : openE slot cfg last = 0
  · rw [if_pos e, if_pos e]
    have hb : openBad slot cfg = false := by
      cases hb : openBad slot cfg
      · rfl
      · unfold openE at e; rw [hb] at e; simp at e
    have hd : dirB cfg = true := by
      cases hd : dirB cfg
      · have := (openBad_dir s0 c0 c1).2 (.inr (.inr hd)); rw [hb] at this; cases this
      · rfl
    have hd := of_decide_eq_true hd
    refine h.snoc ⟨rfl, rfl, c0, hd.2, rfl, rfl, ?_⟩
    show majX (listK cfg 7) [] = false
    have : pickL (listK cfg 7) [] true = [] := by
      unfold pickL
      rw [List.filter_eq_nil_iff]
      intro x _
      simp
    unfold majX
    rw [this]
    exact decide_eq_false (by simp)
  · rw [if_neg e, if_neg e]
    exact h

end Go.Proofs.Ytbnmildjamjjmaa
