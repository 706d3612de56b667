/-
  Plain law of layers 3 and 18: frames and messages are read as they were put, and what is read was put; one byte less, one byte more. Conditions: bytes.
-/
import Derived.Test.YtaielcokfpodaaaMsgQ
import Derived.Test.YtaielcokfpodaaaMsgK
namespace Go.Proofs.Ytaielcokfpodaaa

/-! Frames. -/
theorem pFrame_put {l : List Int} (h0 : l ≠ []) (h6 : l.length ≤ 65536) (rest : List Int) : pFrame (frameB l ++ rest) = (l, ((frameB l).length : Int), 0) := by
  have hlen : 1 ≤ l.length := by
    rcases l with _ | ⟨x, l⟩
    · exact absurd rfl h0
    · simp
  have hs := sumB_len l
  unfold pFrame frameB
  rw [List.append_assoc, List.append_assoc, pNum_numE _ (by omega)]
  simp only [ne_eq, not_true_eq_false, if_false]
  rw [if_neg (by omega), if_neg (by simp only [List.length_append, hs, Int.toNat_natCast]; omega)]
  simp only [Int.toNat_natCast]
  have e1 : (sumB l ++ (l ++ rest)).drop 8 = l ++ rest := by rw [← hs]; exact List.drop_left
  have e2 : (sumB l ++ (l ++ rest)).take 8 = sumB l := by rw [← hs]; exact List.take_left
  rw [e1, e2, List.take_left]
  simp only [not_true_eq_false, if_false, Prod.mk.injEq, and_true, true_and, List.length_append, hs]
  omega
theorem pFrame_short {l : List Int} (h0 : l ≠ []) (h6 : l.length ≤ 65536) : pFrame (frameB l).dropLast = ([], 0, 3) := by
  have hlen : 1 ≤ l.length := by
    rcases l with _ | ⟨x, l⟩
    · exact absurd rfl h0
    · simp
  have hs := sumB_len l
  unfold frameB
  rw [List.dropLast_append_of_ne_nil h0]
  unfold pFrame
  rw [List.append_assoc, pNum_numE _ (by omega)]
  simp only [ne_eq, not_true_eq_false, if_false]
  rw [if_neg (by omega), if_pos (by simp only [List.length_append, hs, Int.toNat_natCast, List.length_dropLast]; omega)]
theorem pFrame_ok {s ins : List Int} {n : Int} (h : pFrame s = (ins, n, 0)) (hb : Byt s) : ∃ rest, s = frameB ins ++ rest ∧ n = ((frameB ins).length : Int) ∧ ins ≠ [] ∧ ins.length ≤ 65536 ∧ Byt ins := by
  unfold pFrame at h
  rcases hn : pNum (s, 0) with ⟨x, l', e⟩
  simp only [hn] at h
  by_cases he : e ≠ 0
  · rw [if_pos he] at h
    simp only [Prod.mk.injEq] at h
    exact absurd h.2.2 he
  · obtain rfl : e = 0 := by simpa using he
    rw [if_neg he] at h
    obtain ⟨g1, g2, g3, g4⟩ := pNumOk hn hb
    simp only [Prod.mk.injEq, and_true] at g1
    by_cases h1 : x = 0 ∨ 65536 < x
    · rw [if_pos h1] at h
      simp at h
    · rw [if_neg h1] at h
      by_cases h2 : l'.length < 8 + x.toNat
      · rw [if_pos h2] at h
        simp at h
      · rw [if_neg h2] at h
        by_cases h3 : sumB ((l'.drop 8).take x.toNat) ≠ l'.take 8
        · rw [if_pos h3] at h
          simp at h
        · rw [if_neg h3] at h
          simp only [Prod.mk.injEq, and_true] at h
          obtain ⟨rfl, rfl⟩ := h
          have h3' : sumB ((l'.drop 8).take x.toNat) = l'.take 8 := by simpa using h3
          have hil : ((l'.drop 8).take x.toNat).length = x.toNat := by rw [List.length_take, List.length_drop]; omega
          have hf : frameB ((l'.drop 8).take x.toNat) = numE x.toNat ++ l'.take 8 ++ (l'.drop 8).take x.toNat := by
            unfold frameB
            rw [hil, h3']
          have hl8 : (l'.take 8).length = 8 := by rw [List.length_take]; omega
          refine ⟨(l'.drop 8).drop x.toNat, ?_, ?_, ?_, by omega, (g4.drop 8).take _⟩
          · rw [hf, List.append_assoc, List.append_assoc, List.take_append_drop, List.take_append_drop]
            exact g1
          · rw [hf, g1]
            simp only [List.length_append, hil, hl8]
            omega
          · intro hnil
            rw [hnil] at hil
            simp at hil
            omega

/-! Messages. -/
theorem insM_ne (m : Ms) : insM m ≠ [] := by unfold insM; simp
theorem takeM_put {m : Ms} (hw : WfM m) (h : mayM m = true) (hl : (insM m).length ≤ 65536) : takeM (frameB (insM m)) = (m, 0) := by
  have hf := pFrame_put (insM_ne m) hl []
  rw [List.append_nil] at hf
  unfold takeM
  simp only [hf, ne_eq, not_true_eq_false, if_false, Int.lt_irrefl]
  exact inM_ins hw h
theorem takeM_short {m : Ms} (hl : (insM m).length ≤ 65536) : takeM (frameB (insM m)).dropLast = (ms0 0, 3) := by
  unfold takeM
  simp only [pFrame_short (insM_ne m) hl]
  rw [if_pos (by decide)]
theorem takeM_more {m : Ms} (hl : (insM m).length ≤ 65536) : takeM (frameB (insM m) ++ [0]) = (ms0 0, 4) := by
  unfold takeM
  simp only [pFrame_put (insM_ne m) hl [0], ne_eq, not_true_eq_false, if_false]
  rw [if_pos (by simp only [List.length_append, List.length_cons, List.length_nil]; omega)]

/-! What is left grows never. -/
theorem le_take (n : Nat) (s : Rs) : (pTake n s).2.1.length ≤ s.1.length := by
  unfold pTake
  split
  · exact Nat.le_refl _
  · split
    · exact Nat.zero_le _
    · simp only [List.length_drop]
      omega
theorem le_byte (s : Rs) : (pByte s).2.1.length ≤ s.1.length := le_take 1 s
theorem le_num (s : Rs) : (pNum s).2.1.length ≤ s.1.length := by
  have h1 := le_byte s
  unfold pNum pTail
  split
  · exact h1
  · have h2 := le_take ((pByte s).1 - 247).toNat (pByte s).2
    simp only
    split
    · exact Nat.zero_le _
    · exact Nat.le_trans h2 h1
theorem le_belowV (n most : Int) (s : Rs) : (pBelowV n most s).2.1.length ≤ s.1.length := by
  unfold pBelowV
  split
  · exact Nat.le_refl _
  · split
    · exact Nat.zero_le _
    · exact Nat.le_refl _
theorem le_below (m : Int) (s : Rs) : (pBelow m s).2.1.length ≤ s.1.length := Nat.le_trans (le_belowV _ _ _) (le_num s)
theorem le_str (most : Int) (s : Rs) : (pStr most s).2.1.length ≤ s.1.length := Nat.le_trans (le_take _ _) (Nat.le_trans (le_belowV _ _ _) (le_num s))
theorem le_bad (s : Rs) : (pBad s).1.length ≤ s.1.length := by
  unfold pBad
  split
  · exact Nat.zero_le _
  · exact Nat.le_refl _
theorem le_bal (s : Rs) : (pBal s).2.1.length ≤ s.1.length := by
  have h1 : (pByte (pNum s).2).2.1.length ≤ s.1.length := Nat.le_trans (le_byte _) (le_num s)
  have h2 := Nat.le_trans (le_bad (pByte (pNum s).2).2) h1
  unfold pBal
  simp only
  split
  · split
    · exact h1
    · exact h1
  · split
    · exact h2
    · exact h2
theorem le_cmd (s : Rs) : (pCmd s).2.1.length ≤ s.1.length := by
  have h1 : (pByte (pStr 64 (pStr 64 (pStr 16 (pByte (pBelow 4294967296 (pByte s).2).2).2).2).2).2).2.1.length ≤ s.1.length :=
    Nat.le_trans (le_byte _) (Nat.le_trans (le_str _ _) (Nat.le_trans (le_str _ _) (Nat.le_trans (le_str _ _) (Nat.le_trans (le_byte _) (Nat.le_trans (le_below _ _) (le_byte _))))))
  have h2 := Nat.le_trans (le_bad _) h1
  unfold pCmd
  simp only
  split
  · split
    · exact h1
    · exact h1
  · split
    · exact h2
    · exact h2
theorem le_vt (s : Rs) : (pVt s).2.1.length ≤ s.1.length := Nat.le_trans (le_str _ _) (Nat.le_trans (le_bal _) (le_num s))
theorem le_it (s : Rs) : (pIt s).2.1.length ≤ s.1.length := Nat.le_trans (le_str _ _) (le_num s)
theorem le_vts : ∀ (n : Nat) (x : List Vt × Rs), (pVts n x).2.1.length ≤ x.2.1.length
  | 0, _ => Nat.le_refl _
  | n + 1, x => by
    rw [pVts]
    split
    · exact Nat.le_trans (le_vts n _) (le_vt _)
    · exact Nat.le_refl _
theorem le_its : ∀ (n : Nat) (x : List It × Rs), (pIts n x).2.1.length ≤ x.2.1.length
  | 0, _ => Nat.le_refl _
  | n + 1, x => by
    rw [pIts]
    split
    · exact Nat.le_trans (le_its n _) (le_it _)
    · exact Nat.le_refl _
theorem ptTake_le (m : Ms) (s : Rs) (p : Pt) : (ptTake (m, s) p).2.1.length ≤ s.1.length := by
  cases p
  case whole => exact le_cmd s
  case name => exact Nat.le_trans (le_below _ _) (le_byte s)
  case reply => exact Nat.le_trans (le_str _ _) (le_byte s)
  case node => exact le_byte s
  case byy => exact le_bal s
  case base => exact le_num s
  case upto => exact le_num s
  case slot => exact le_num s
  case value => exact le_str _ s
  case votes => exact Nat.le_trans (le_vts _ _) (le_num s)
  case items => exact Nat.le_trans (le_its _ _) (le_num s)

/-- Which field a part is of. -/
def ptF : Pt → Nat
  | .whole => 0
  | .name => 0
  | .reply => 1
  | .node => 2
  | .byy => 3
  | .base => 4
  | .upto => 5
  | .slot => 5
  | .value => 6
  | .votes => 7
  | .items => 8
theorem ptBy_still {m : Ms} {s : Rs} {p q : Pt} (h : ptF p ≠ ptF q) : ptBy (ptTake (m, s) q).1 p = ptBy m p := by
  cases p <;> cases q <;> first
    | rfl
    | exact absurd rfl h
theorem take_votes {m : Ms} {s : Rs} {q : Pt} (h : q ≠ .votes) : (ptTake (m, s) q).1.votes = m.votes := by
  cases q <;> first
    | rfl
    | exact absurd rfl h
theorem take_items {m : Ms} {s : Rs} {q : Pt} (h : q ≠ .items) : (ptTake (m, s) q).1.items = m.items := by
  cases q <;> first
    | rfl
    | exact absurd rfl h
theorem take_kind {m : Ms} {s : Rs} {q : Pt} : (ptTake (m, s) q).1.kind = m.kind := by
  cases q <;> rfl
theorem pVts_len : ∀ (n : Nat) (acc : List Vt) (s : Rs), RdOk s → Gone s → (pVts n (acc, s)).1.length ≤ acc.length + s.1.length + 1
  | 0, acc, s, _, _ => by
    simp only [pVts]
    omega
  | n + 1, acc, s, hs, hg => by
    rw [pVts]
    simp only
    split
    · rename_i he
      by_cases h : (pVt s).2.2 = 0
      · have h1 := pVts_len n (acc ++ [(pVt s).1]) (pVt s).2 hs.vt.1 hg.vt
        have h2 := vt_cost0 hs h
        simp only [List.length_append, List.length_cons, List.length_nil] at h1
        omega
      · cases n with
        | zero => simp only [pVts, List.length_append, List.length_cons, List.length_nil]; omega
        | succ n =>
          rw [pVts]
          simp only
          rw [if_neg h]
          simp only [List.length_append, List.length_cons, List.length_nil]
          omega
    · show acc.length ≤ _
      omega
theorem pIts_len : ∀ (n : Nat) (acc : List It) (s : Rs), RdOk s → Gone s → (pIts n (acc, s)).1.length ≤ acc.length + s.1.length + 1
  | 0, acc, s, _, _ => by
    simp only [pIts]
    omega
  | n + 1, acc, s, hs, hg => by
    rw [pIts]
    simp only
    split
    · rename_i he
      by_cases h : (pIt s).2.2 = 0
      · have h1 := pIts_len n (acc ++ [(pIt s).1]) (pIt s).2 hs.it.1 hg.it
        have h2 := it_cost0 hs h
        simp only [List.length_append, List.length_cons, List.length_nil] at h1
        omega
      · cases n with
        | zero => simp only [pIts, List.length_append, List.length_cons, List.length_nil]; omega
        | succ n =>
          rw [pIts]
          simp only
          rw [if_neg h]
          simp only [List.length_append, List.length_cons, List.length_nil]
          omega
    · show acc.length ≤ _
      omega
theorem pVts_wf : ∀ (n : Nat) (acc : List Vt) (s : Rs), RdOk s → (∀ v ∈ acc, WfV v) → RdOk (pVts n (acc, s)).2 ∧ ∀ v ∈ (pVts n (acc, s)).1, WfV v
  | 0, acc, s, hs, ha => ⟨hs, ha⟩
  | n + 1, acc, s, hs, ha => by
    rw [pVts]
    simp only
    split
    · exact pVts_wf n _ _ hs.vt.1 (fun v hv => by
        rcases List.mem_append.1 hv with h | h
        · exact ha v h
        · simp only [List.mem_cons, List.not_mem_nil, or_false] at h
          subst h
          exact hs.vt.2)
    · exact ⟨hs, ha⟩
theorem pIts_wf : ∀ (n : Nat) (acc : List It) (s : Rs), RdOk s → (∀ v ∈ acc, WfI v) → RdOk (pIts n (acc, s)).2 ∧ ∀ v ∈ (pIts n (acc, s)).1, WfI v
  | 0, acc, s, hs, ha => ⟨hs, ha⟩
  | n + 1, acc, s, hs, ha => by
    rw [pIts]
    simp only
    split
    · exact pIts_wf n _ _ hs.it.1 (fun v hv => by
        rcases List.mem_append.1 hv with h | h
        · exact ha v h
        · simp only [List.mem_cons, List.not_mem_nil, or_false] at h
          subst h
          exact hs.it.2)
    · exact ⟨hs, ha⟩
theorem Gone.vts : ∀ (n : Nat) (acc : List Vt) (s : Rs), Gone s → Gone (pVts n (acc, s)).2
  | 0, _, _, h => h
  | n + 1, acc, s, h => by
    rw [pVts]
    simp only
    split
    · exact Gone.vts n _ _ h.vt
    · exact h
theorem Gone.its : ∀ (n : Nat) (acc : List It) (s : Rs), Gone s → Gone (pIts n (acc, s)).2
  | 0, _, _, h => h
  | n + 1, acc, s, h => by
    rw [pIts]
    simp only
    split
    · exact Gone.its n _ _ h.it
    · exact h
theorem Gone.cmd {s : Rs} (h : Gone s) : Gone (pCmd s).2 := by
  have hx := ((((((h.byte).num.belowV _ _).byte.str 16).str 64).str 64).byte : Gone (pByte (pStr 64 (pStr 64 (pStr 16 (pByte (pBelow 4294967296 (pByte s).2).2).2).2).2).2).2)
  have hb := hx.bad
  unfold pCmd
  simp only
  split
  · split
    · exact hx
    · exact hx
  · split
    · exact hb
    · exact hb
theorem gone_take {x : Ms × Rs} (h : Gone x.2) (p : Pt) : Gone (ptTake x p).2 := by
  obtain ⟨m, s⟩ := x
  simp only at h
  cases p
  case whole => exact h.cmd
  case name => exact h.byte.num.belowV _ _
  case reply => exact h.byte.str _
  case node => exact h.byte
  case byy => exact h.bal
  case base => exact h.num
  case upto => exact h.num
  case slot => exact h.num
  case value => exact h.str _
  case votes => exact Gone.vts _ _ _ h.num
  case items => exact Gone.its _ _ _ h.num
/-- A part that is read holds what its type holds. -/
theorem wf_take {m : Ms} {s : Rs} (hw : WfM m) (hs : RdOk s) (hg : Gone s) {p : Pt} (hv : p = .votes → m.votes = []) (hi : p = .items → m.items = []) (hl : s.1.length ≤ 900000) : WfM (ptTake (m, s) p).1 ∧ RdOk (ptTake (m, s) p).2 := by
  cases p
  case whole => exact ⟨⟨hw.kind, hw.bn, hw.br, hw.base, hw.slot, hw.node, hw.val, hw.votes, hw.items, hs.cmd.2.1, hw.code, hw.text⟩, hs.cmd.1⟩
  case name =>
    obtain ⟨b1, b2, b3⟩ := hs.byte
    obtain ⟨c1, c2, c3⟩ := b1.rbelow 4294967296 (by decide)
    exact ⟨⟨hw.kind, hw.bn, hw.br, hw.base, hw.slot, hw.node, hw.val, hw.votes, hw.items, ⟨⟨b2, b3⟩, ⟨c2, c3⟩, b255, Byt.nil, Byt.nil, Byt.nil, b255⟩, hw.code, hw.text⟩, c1⟩
  case reply =>
    obtain ⟨b1, b2, b3⟩ := hs.byte
    obtain ⟨c1, c2, c3⟩ := b1.str 64 (by decide)
    exact ⟨⟨hw.kind, hw.bn, hw.br, hw.base, hw.slot, hw.node, hw.val, hw.votes, hw.items, hw.cmd, ⟨b2, b3⟩, c2⟩, c1⟩
  case node =>
    obtain ⟨b1, b2, b3⟩ := hs.byte
    exact ⟨⟨hw.kind, hw.bn, hw.br, hw.base, hw.slot, ⟨b2, b3⟩, hw.val, hw.votes, hw.items, hw.cmd, hw.code, hw.text⟩, b1⟩
  case byy =>
    obtain ⟨b1, b2, b3⟩ := hs.bal
    exact ⟨⟨hw.kind, b2, b3, hw.base, hw.slot, hw.node, hw.val, hw.votes, hw.items, hw.cmd, hw.code, hw.text⟩, b1⟩
  case base =>
    obtain ⟨b1, b2, b3⟩ := hs.num
    exact ⟨⟨hw.kind, hw.bn, hw.br, ⟨b2, b3⟩, hw.slot, hw.node, hw.val, hw.votes, hw.items, hw.cmd, hw.code, hw.text⟩, b1⟩
  case upto =>
    obtain ⟨b1, b2, b3⟩ := hs.num
    exact ⟨⟨hw.kind, hw.bn, hw.br, hw.base, ⟨b2, b3⟩, hw.node, hw.val, hw.votes, hw.items, hw.cmd, hw.code, hw.text⟩, b1⟩
  case slot =>
    obtain ⟨b1, b2, b3⟩ := hs.num
    exact ⟨⟨hw.kind, hw.bn, hw.br, hw.base, ⟨b2, b3⟩, hw.node, hw.val, hw.votes, hw.items, hw.cmd, hw.code, hw.text⟩, b1⟩
  case value =>
    obtain ⟨c1, c2, c3⟩ := hs.str 65536 (by decide)
    exact ⟨⟨hw.kind, hw.bn, hw.br, hw.base, hw.slot, hw.node, ⟨c2, by show (pStr 65536 s).1.length ≤ _; omega⟩, hw.votes, hw.items, hw.cmd, hw.code, hw.text⟩, c1⟩
  case votes =>
    have e := hv rfl
    have n1 := hs.num.1
    have hle := le_num s
    obtain ⟨d1, d2⟩ := pVts_wf (pNum s).1.toNat m.votes (pNum s).2 n1 (by rw [e]; simp)
    have d3 := pVts_len (pNum s).1.toNat m.votes (pNum s).2 n1 hg.num
    rw [e, List.length_nil] at d3
    rw [e] at d1 d2
    refine ⟨⟨hw.kind, hw.bn, hw.br, hw.base, hw.slot, hw.node, hw.val, ⟨?_, ?_⟩, hw.items, hw.cmd, hw.code, hw.text⟩, ?_⟩
    · show (pVts (pNum s).1.toNat (m.votes, (pNum s).2)).1.length ≤ _
      rw [e]
      omega
    · show ∀ v ∈ (pVts (pNum s).1.toNat (m.votes, (pNum s).2)).1, WfV v
      rw [e]
      exact d2
    · show RdOk (pVts (pNum s).1.toNat (m.votes, (pNum s).2)).2
      rw [e]
      exact d1
  case items =>
    have e := hi rfl
    have n1 := hs.num.1
    have hle := le_num s
    obtain ⟨d1, d2⟩ := pIts_wf (pNum s).1.toNat m.items (pNum s).2 n1 (by rw [e]; simp)
    have d3 := pIts_len (pNum s).1.toNat m.items (pNum s).2 n1 hg.num
    rw [e, List.length_nil] at d3
    rw [e] at d1 d2
    refine ⟨⟨hw.kind, hw.bn, hw.br, hw.base, hw.slot, hw.node, hw.val, hw.votes, ⟨?_, ?_⟩, hw.cmd, hw.code, hw.text⟩, ?_⟩
    · show (pIts (pNum s).1.toNat (m.items, (pNum s).2)).1.length ≤ _
      rw [e]
      omega
    · show ∀ v ∈ (pIts (pNum s).1.toNat (m.items, (pNum s).2)).1, WfI v
      rw [e]
      exact d2
    · show RdOk (pIts (pNum s).1.toNat (m.items, (pNum s).2)).2
      rw [e]
      exact d1
/-- A part that is read was put. -/
theorem ptTake_ok {m m1 : Ms} {s : Rs} {p : Pt} {l' : List Int} (h : ptTake (m, s) p = (m1, (l', 0))) (hs : RdOk s) (hv : p = .votes → m.votes = []) (hi : p = .items → m.items = []) : s = (ptBy m1 p ++ l', 0) := by
  cases p
  case whole =>
    rcases h1 : pCmd s with ⟨c, s1⟩
    simp only [ptTake, h1, Prod.mk.injEq] at h
    obtain ⟨rfl, rfl⟩ := h
    exact (pCmd_ok h1 hs).1
  case name =>
    rcases h1 : pByte s with ⟨x, s1⟩
    rcases h2 : pBelow 4294967296 s1 with ⟨y, s2⟩
    simp only [ptTake, h1, h2, Prod.mk.injEq] at h
    obtain ⟨rfl, rfl⟩ := h
    have k1 := hs.byte.1
    rw [h1] at k1
    have e2 := (pBelow_ok h2 k1.1).1
    subst e2
    have e1 := pByte_ok h1
    subst e1
    simp [ptBy]
  case reply =>
    rcases h1 : pByte s with ⟨x, s1⟩
    rcases h2 : pStr 64 s1 with ⟨y, s2⟩
    simp only [ptTake, h1, h2, Prod.mk.injEq] at h
    obtain ⟨rfl, rfl⟩ := h
    have k1 := hs.byte.1
    rw [h1] at k1
    have e2 := (pStr_ok h2 k1.1).1
    subst e2
    have e1 := pByte_ok h1
    subst e1
    simp [ptBy]
  case node =>
    rcases h1 : pByte s with ⟨x, s1⟩
    simp only [ptTake, h1, Prod.mk.injEq] at h
    obtain ⟨rfl, rfl⟩ := h
    have e1 := pByte_ok h1
    subst e1
    simp [ptBy]
  case byy =>
    rcases h1 : pBal s with ⟨⟨x, y⟩, s1⟩
    simp only [ptTake, h1, Prod.mk.injEq] at h
    obtain ⟨rfl, rfl⟩ := h
    exact (pBal_ok h1 hs.1).1
  case base =>
    rcases h1 : pNum s with ⟨x, s1⟩
    simp only [ptTake, h1, Prod.mk.injEq] at h
    obtain ⟨rfl, rfl⟩ := h
    exact (pNumOk h1 hs.1).1
  case upto =>
    rcases h1 : pNum s with ⟨x, s1⟩
    simp only [ptTake, h1, Prod.mk.injEq] at h
    obtain ⟨rfl, rfl⟩ := h
    exact (pNumOk h1 hs.1).1
  case slot =>
    rcases h1 : pNum s with ⟨x, s1⟩
    simp only [ptTake, h1, Prod.mk.injEq] at h
    obtain ⟨rfl, rfl⟩ := h
    exact (pNumOk h1 hs.1).1
  case value =>
    rcases h1 : pStr 65536 s with ⟨x, s1⟩
    simp only [ptTake, h1, Prod.mk.injEq] at h
    obtain ⟨rfl, rfl⟩ := h
    exact (pStr_ok h1 hs.1).1
  case votes =>
    have k1 := hs.num
    rcases h1 : pNum s with ⟨x, s1⟩
    rw [h1] at k1
    rcases h2 : pVts x.toNat (m.votes, s1) with ⟨vs, s2⟩
    simp only [ptTake, h1, h2, Prod.mk.injEq] at h
    obtain ⟨rfl, rfl⟩ := h
    obtain ⟨us, e1, e2, e3, e4⟩ := pVts_ok _ _ _ _ _ h2 k1.1
    rw [hv rfl, List.nil_append] at e1
    subst e1
    subst e3
    have e5 := (pNumOk h1 hs.1).1
    rw [e5]
    simp only [ptBy, e2, List.append_assoc]
  case items =>
    have k1 := hs.num
    rcases h1 : pNum s with ⟨x, s1⟩
    rw [h1] at k1
    rcases h2 : pIts x.toNat (m.items, s1) with ⟨vs, s2⟩
    simp only [ptTake, h1, h2, Prod.mk.injEq] at h
    obtain ⟨rfl, rfl⟩ := h
    obtain ⟨us, e1, e2, e3, e4⟩ := pIts_ok _ _ _ _ _ h2 k1.1
    rw [hi rfl, List.nil_append] at e1
    subst e1
    subst e3
    have e5 := (pNumOk h1 hs.1).1
    rw [e5]
    simp only [ptBy, e2, List.append_assoc]
theorem fold_still {p : Pt} : ∀ (l : List Pt) (x : Ms × Rs), (∀ q ∈ l, ptF p ≠ ptF q) → ptBy (l.foldl ptTake x).1 p = ptBy x.1 p
  | [], _, _ => rfl
  | q :: l, x, h => by
    rw [List.foldl_cons, fold_still l _ (fun r hr => h r (List.mem_cons_of_mem _ hr))]
    exact ptBy_still (h q (List.mem_cons_self ..))
theorem ptF_votes {q : Pt} (h : ptF .votes ≠ ptF q) : q ≠ .votes := by rintro rfl; exact h rfl
theorem ptF_items {q : Pt} (h : ptF .items ≠ ptF q) : q ≠ .items := by rintro rfl; exact h rfl
theorem fold_ok : ∀ (l : List Pt) (m mf : Ms) (s : Rs) (l' : List Int), (l.map ptF).Nodup → l.foldl ptTake (m, s) = (mf, (l', 0)) → WfM m → RdOk s → Gone s → s.1.length ≤ 900000 → (.votes ∈ l → m.votes = []) → (.items ∈ l → m.items = []) → s = (l.flatMap (ptBy mf) ++ l', 0) ∧ WfM mf
  | [], m, mf, s, l', _, h, hw, _, _, _, _, _ => by
    simp only [List.foldl_nil, Prod.mk.injEq] at h
    obtain ⟨rfl, rfl⟩ := h
    exact ⟨by simp, hw⟩
  | p :: l, m, mf, s, l', hn, h, hw, hs, hg, hl, hv, hi => by
    rw [List.map_cons, List.nodup_cons] at hn
    rw [List.foldl_cons] at h
    have hne : ∀ q ∈ l, ptF p ≠ ptF q := fun q hq e => hn.1 (by rw [e]; exact List.mem_map_of_mem hq)
    have hvp : p = .votes → m.votes = [] := fun e => hv (by rw [e]; exact List.mem_cons_self ..)
    have hip : p = .items → m.items = [] := fun e => hi (by rw [e]; exact List.mem_cons_self ..)
    have hwf := wf_take (p := p) hw hs hg hvp hip hl
    have hgt := gone_take (x := (m, s)) hg p
    have hle := ptTake_le m s p
    rcases ht : ptTake (m, s) p with ⟨m1, s1⟩
    have hv1 : p ≠ .votes → m1.votes = m.votes := fun e => by have := take_votes (m := m) (s := s) e; rw [ht] at this; exact this
    have hi1 : p ≠ .items → m1.items = m.items := fun e => by have := take_items (m := m) (s := s) e; rw [ht] at this; exact this
    rw [ht] at h hwf hgt hle
    simp only at hwf hgt hle
    have hst : ptBy mf p = ptBy m1 p := by
      have := fold_still (p := p) l (m1, s1) hne
      rw [h] at this
      exact this
    obtain ⟨e1, e2⟩ := fold_ok l m1 mf s1 l' hn.2 h hwf.1 hwf.2 hgt (by omega) (fun hq => by
        have hpv : p ≠ .votes := fun e => hne _ hq (by rw [e])
        rw [hv1 hpv]
        exact hv (List.mem_cons_of_mem _ hq)) (fun hq => by
        have hpv : p ≠ .items := fun e => hne _ hq (by rw [e])
        rw [hi1 hpv]
        exact hi (List.mem_cons_of_mem _ hq))
    rw [e1] at ht
    refine ⟨?_, e2⟩
    have e3 := ptTake_ok ht hs hvp hip
    rw [e3, List.flatMap_cons, hst, List.append_assoc]
theorem nodup_ite {c : Prop} [Decidable c] {l r : List Pt} (hl : (l.map ptF).Nodup) (hr : (r.map ptF).Nodup) : ((if c then l else r).map ptF).Nodup := by
  by_cases h : c
  · rw [if_pos h]; exact hl
  · rw [if_neg h]; exact hr
theorem ptsOf_nodup (k : Int) : ((ptsOf k).map ptF).Nodup := by
  unfold ptsOf
  repeat' apply nodup_ite
  all_goals decide
theorem inM_ok {ins : List Int} {m : Ms} (h : inM ins = (m, 0)) (hb : Byt ins) (hl : ins.length ≤ 65536) (h0 : ins ≠ []) : insM m = ins ∧ mayM m = true ∧ WfM m := by
  obtain ⟨k, t, rfl⟩ : ∃ k t, ins = k :: t := by
    rcases ins with _ | ⟨k, t⟩
    · exact absurd rfl h0
    · exact ⟨k, t, rfl⟩
  have hk := hb k (by simp)
  have hbt : Byt t := fun x hx => hb x (by simp [hx])
  unfold inM at h
  rw [pByte_cons] at h
  simp only at h
  rcases hf : (ptsOf k).foldl ptTake (ms0 k, (t, 0)) with ⟨mf, l', e⟩
  rw [hf] at h
  simp only at h
  by_cases hc : (pEnd (l', e)).2 = 0 ∧ mayM mf = true
  · rw [if_pos hc] at h
    simp only [Prod.mk.injEq, and_true] at h
    subst h
    have he : l' = [] ∧ e = 0 := by
      have := hc.1
      unfold pEnd at this
      by_cases hn : l' = []
      · rw [if_pos hn] at this
        exact ⟨hn, this⟩
      · rw [if_neg hn] at this
        simp at this
    obtain ⟨rfl, rfl⟩ := he
    simp only [List.length_cons] at hl
    obtain ⟨e1, e2⟩ := fold_ok (ptsOf k) (ms0 k) mf (t, 0) [] (ptsOf_nodup k) hf (wf_ms0 k hk.1 hk.2) ⟨hbt, by show t.length ≤ _; omega⟩ (fun h => absurd rfl h) (by show t.length ≤ _; omega) (fun _ => rfl) (fun _ => rfl)
    simp only [List.append_nil, Prod.mk.injEq, and_true] at e1
    have hkd : mf.kind = k := by
      have : ∀ (l : List Pt) (x : Ms × Rs), (l.foldl ptTake x).1.kind = x.1.kind := fun l => by
        induction l with
        | nil => intro x; rfl
        | cons q l ih => intro x; rw [List.foldl_cons, ih]; exact take_kind (m := x.1) (s := x.2)
      have := this (ptsOf k) (ms0 k, (t, 0))
      rw [hf] at this
      exact this
    exact ⟨by unfold insM; rw [hkd, ← e1], hc.2, e2⟩
  · rw [if_neg hc] at h
    simp at h
theorem takeM_ok {s : List Int} {m : Ms} (h : takeM s = (m, 0)) (hb : Byt s) : mayM m = true ∧ frameB (insM m) = s ∧ (insM m).length ≤ 65536 ∧ WfM m := by
  unfold takeM at h
  rcases hf : pFrame s with ⟨ins, n, e⟩
  simp only [hf] at h
  by_cases he : e ≠ 0
  · rw [if_pos he] at h
    simp only [Prod.mk.injEq] at h
    exact absurd h.2 he
  · obtain rfl : e = 0 := by simpa using he
    rw [if_neg he] at h
    by_cases h1 : n < (s.length : Int)
    · rw [if_pos h1] at h
      simp at h
    · rw [if_neg h1] at h
      obtain ⟨rest, e1, e2, e3, e4, e5⟩ := pFrame_ok hf hb
      obtain ⟨g1, g2, g3⟩ := inM_ok h e5 e4 e3
      have hr : rest = [] := by
        have := congrArg List.length e1
        rw [List.length_append] at this
        exact List.eq_nil_of_length_eq_zero (by omega)
      rw [hr, List.append_nil] at e1
      exact ⟨g2, by rw [g1]; exact e1.symm, by rw [g1]; exact e4, g3⟩
theorem takeM_zero {s : List Int} (h : (takeM s).2 ≠ 0) : (takeM s).1 = ms0 0 := by
  unfold takeM at *
  simp only at *
  split
  · rfl
  · rename_i h1
    rw [if_neg h1] at h
    split
    · rfl
    · rename_i h2
      rw [if_neg h2] at h
      unfold inM at *
      simp only at *
      split
      · rename_i h3
        rw [if_pos h3] at h
        exact absurd rfl h
      · rfl
theorem txt_take {m : Ms} {s : Rs} (h : TxtM m) (hs : RdOk s) (p : Pt) : TxtM (ptTake (m, s) p).1 := by
  cases p
  case whole => exact ⟨by have := hs.cmd.2.2.1; show (pCmd s).1.key.length ≤ _; omega, by have := hs.cmd.2.2.2.1; show (pCmd s).1.old.length ≤ _; omega, by have := hs.cmd.2.2.2.2; show (pCmd s).1.new.length ≤ _; omega, h.text⟩
  case name => exact ⟨Nat.zero_le _, Nat.zero_le _, Nat.zero_le _, h.text⟩
  case reply => exact ⟨h.key, h.old, h.new, by have := (hs.byte.1.str 64 (by decide)).2.2; show (pStr 64 (pByte s).2).1.length ≤ _; omega⟩
  all_goals exact ⟨h.key, h.old, h.new, h.text⟩
theorem own_votes {m : Ms} : ∀ (l : List Pt) (tt : Ms), .votes ∉ l → (l.foldl (ptMove m) tt).votes = tt.votes
  | [], _, _ => rfl
  | q :: l, tt, h => by
    rw [List.foldl_cons, own_votes l _ (fun hh => h (List.mem_cons_of_mem _ hh))]
    cases q <;> first
      | rfl
      | exact absurd (List.mem_cons_self ..) h
theorem own_items {m : Ms} : ∀ (l : List Pt) (tt : Ms), .items ∉ l → (l.foldl (ptMove m) tt).items = tt.items
  | [], _, _ => rfl
  | q :: l, tt, h => by
    rw [List.foldl_cons, own_items l _ (fun hh => h (List.mem_cons_of_mem _ hh))]
    cases q <;> first
      | rfl
      | exact absurd (List.mem_cons_self ..) h
theorem flat_ge {m : Ms} {p : Pt} : ∀ {l : List Pt}, p ∈ l → (ptBy m p).length ≤ (l.flatMap (ptBy m)).length
  | q :: l, h => by
    rw [List.flatMap_cons, List.length_append]
    rcases List.mem_cons.1 h with rfl | h
    · omega
    · have := flat_ge (m := m) h
      omega
theorem lists_le {m : Ms} (h : mayM m = true) : (m.votes.flatMap vtBy).length ≤ (insM m).length ∧ (m.items.flatMap itBy).length ≤ (insM m).length := by
  have ho := (mayM_parts h).2.2
  unfold insM
  rw [List.length_cons]
  constructor
  · by_cases hv : Pt.votes ∈ ptsOf m.kind
    · have := flat_ge (m := m) hv
      simp only [ptBy, List.length_append] at this
      omega
    · have e := own_votes (m := m) (ptsOf m.kind) (ms0 m.kind) hv
      have e2 : (ownM m).votes = [] := e
      rw [ho] at e2
      rw [e2]
      exact Nat.zero_le _
  · by_cases hv : Pt.items ∈ ptsOf m.kind
    · have := flat_ge (m := m) hv
      simp only [ptBy, List.length_append] at this
      omega
    · have e := own_items (m := m) (ptsOf m.kind) (ms0 m.kind) hv
      have e2 : (ownM m).items = [] := e
      rw [ho] at e2
      rw [e2]
      exact Nat.zero_le _
/-- Two messages have the same bytes just if they are alike. -/
theorem frame_inj {a b : Ms} (ha : WfM a) (hb : WfM b) (h1 : mayM a = true) (h2 : mayM b = true) (l1 : (insM a).length ≤ 65536) (l2 : (insM b).length ≤ 65536) : frameB (insM a) = frameB (insM b) ↔ a = b := by
  constructor
  · intro h
    have e1 := takeM_put ha h1 l1
    rw [h, takeM_put hb h2 l2] at e1
    simp only [Prod.mk.injEq, and_true] at e1
    exact e1.symm
  · rintro rfl
    rfl
end Go.Proofs.Ytaielcokfpodaaa
