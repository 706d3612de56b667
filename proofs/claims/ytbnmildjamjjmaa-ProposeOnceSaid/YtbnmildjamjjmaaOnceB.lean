/-
  ProposeOnce: what the statement's own notes and the desk have to do with each other. Plain mathematics, and the memory that holds both. Conditions: none.
-/
import Derived.Test.YtbnmildjamjjmaaOnceA
namespace Go.Proofs.Ytbnmildjamjjmaa
open Go.RowKit Go.Maps

/-- The notes V (values), H (who voted), C (sets), G (gone) say what the desk M has. -/
structure OInv (M : List PO) (last : Int) (V : Int → Option ByteArray) (C H : Int → Option Int) (G : Int → Option Bool) : Prop where
  rising : Rising M
  le : ∀ o ∈ M, o.slot ≤ last
  vle : ∀ s, (V s).isSome = true → s ≤ last ∧ (Lit.int .u64 s).wf = true
  mem : ∀ o ∈ M, V o.slot = some o.val ∧ C o.slot = some o.cfg ∧ (G o.slot).getD false = false ∧ (0 ≤ o.cfg ∧ o.cfg ≤ 255) ∧ (0 ≤ o.who ∧ o.who ≤ 255) ∧ (0 ≤ (H o.slot).getD 0 ∧ (H o.slot).getD 0 ≤ 255) ∧ ∀ i, i < 7 → has7 o.who i = has7 ((H o.slot).getD 0) i
  has : ∀ s, (V s).isSome = true → (G s).getD false = false → ∃ o ∈ M, o.slot = s
  nope : ∀ s, V s = none → (G s).getD false = false ∧ (H s).getD 0 = 0

theorem oInv_nil : OInv [] 0 (fun _ => none) (fun _ => none) (fun _ => none) (fun _ => none) :=
  ⟨kr0, by simp, by simp, by simp, by simp, fun _ _ => ⟨rfl, rfl⟩⟩

section
variable {M : List PO} {last : Int} {V : Int → Option ByteArray} {C H : Int → Option Int} {G : Int → Option Bool}
theorem setF_same {α : Type} (f : Int → Option α) (s : Int) (x : α) : setF f s x s = some x := if_pos rfl
theorem setF_other {α : Type} (f : Int → Option α) {s t : Int} (x : α) (h : t ≠ s) : setF f s x t = f t := if_neg h

theorem OInv.open_ (h : OInv M last V C H G) {slot : Int} {v : ByteArray} {cfg : Int} (hw : (Lit.int .u64 slot).wf = true) (c0 : 0 ≤ cfg) (c1 : cfg ≤ 255) (ho : openE slot cfg last = 0) :
    V slot = none ∧ OInv (M ++ [⟨slot, v, cfg, 0⟩]) slot (setF V slot v) (setF C slot cfg) H G := by
  have hl : last < slot := by
    unfold openE at ho
    split at ho
    · omega
    · split at ho <;> omega
  have hn : V slot = none := by
    cases hv : V slot with
    | none => rfl
    | some x => have := (h.vle slot (by rw [hv]; rfl)).1; omega
  refine ⟨hn, ⟨⟨List.pairwise_append.2 ⟨h.rising.1, List.pairwise_singleton _ _, fun a ha b hb => ?_⟩, fun o ho => ?_⟩, fun o ho => ?_, fun s hs => ?_, fun o ho => ?_, fun s hs hg => ?_, fun s hs => ?_⟩⟩
  · rw [List.mem_singleton] at hb; subst hb
    have := h.le a ha
    show a.slot < slot
    omega
  · rcases List.mem_append.1 ho with h1 | h1
    · exact h.rising.2 o h1
    · rw [List.mem_singleton] at h1; subst h1; exact hw
  · rcases List.mem_append.1 ho with h1 | h1
    · have := h.le o h1; omega
    · rw [List.mem_singleton] at h1; subst h1; exact Int.le_refl _
  · by_cases e : s = slot
    · subst e; exact ⟨Int.le_refl _, hw⟩
    · rw [setF_other V v e] at hs
      have := h.vle s hs
      exact ⟨by omega, this.2⟩
  · rcases List.mem_append.1 ho with h1 | h1
    · have hne : o.slot ≠ slot := by have := h.le o h1; omega
      rw [setF_other V v hne, setF_other C cfg hne]
      exact h.mem o h1
    · rw [List.mem_singleton] at h1; subst h1
      obtain ⟨g1, g2⟩ := h.nope slot hn
      refine ⟨setF_same _ _ _, setF_same _ _ _, g1, ⟨c0, c1⟩, ⟨Int.le_refl _, (by decide : (0 : Int) ≤ 255)⟩, ?_, fun i _ => ?_⟩
      · show 0 ≤ (H slot).getD 0 ∧ _
        rw [g2]; decide
      · show has7 0 i = has7 ((H slot).getD 0) i
        rw [g2]
  · by_cases e : s = slot
    · subst e; exact ⟨_, List.mem_append_right _ (List.mem_singleton.2 rfl), rfl⟩
    · rw [setF_other V v e] at hs
      obtain ⟨o, ho, e2⟩ := h.has s hs hg
      exact ⟨o, List.mem_append_left _ ho, e2⟩
  · have e : s ≠ slot := fun e => by subst e; rw [setF_same] at hs; cases hs
    rw [setF_other V v e] at hs
    exact h.nope s hs

/-- A slot is closed. -/
theorem OInv.close (h : OInv M last V C H G) (slot : Int) : OInv (closeM M slot) last V C H (setF G slot (V slot).isSome) := by
  refine ⟨closeM_rising h.rising _, fun o ho => h.le o (List.mem_filter.1 ho).1, h.vle, fun o ho => ?_, fun s hs hg => ?_, fun s hs => ?_⟩
  · obtain ⟨h1, h2⟩ := List.mem_filter.1 ho
    have hne : o.slot ≠ slot := by simpa using h2
    rw [setF_other G _ hne]
    exact h.mem o h1
  · by_cases e : s = slot
    · subst e; rw [setF_same] at hg; rw [hs] at hg; cases hg
    · rw [setF_other G _ e] at hg
      obtain ⟨o, ho, e2⟩ := h.has s hs hg
      exact ⟨o, List.mem_filter.2 ⟨ho, by subst e2; simpa using e⟩, e2⟩
  · refine ⟨?_, (h.nope s hs).2⟩
    by_cases e : s = slot
    · subst e; rw [setF_same, hs]; rfl
    · rw [setF_other G _ e]; exact (h.nope s hs).1

/-- Is the slot open, as the notes have it? -/
def openO (V : Int → Option ByteArray) (G : Int → Option Bool) (s : Int) : Bool := (V s).isSome && !((G s).getD false)
/-- Who voted, behind one more vote. -/
def whoN (H : Int → Option Int) (n s : Int) : Int := setWith ((H s).getD 0) (setOf1 n)
def takeN (V : Int → Option ByteArray) (C : Int → Option Int) (G : Int → Option Bool) (n s : Int) : Bool := openO V G s && (decide (n < 7) && has7 ((C s).getD 0) n.toNat)
def voteH (V : Int → Option ByteArray) (C H : Int → Option Int) (G : Int → Option Bool) (n s : Int) : Int → Option Int := if takeN V C G n s then setF H s (whoN H n s) else H
def wantN (V : Int → Option ByteArray) (C H : Int → Option Int) (G : Int → Option Bool) (s : Int) : Bool := openO V G s && setMaj ((C s).getD 0) ((H s).getD 0)

theorem OInv.closed (h : OInv M last V C H G) {s : Int} (ho : openO V G s = false) : M.find? (fun o => o.slot == s) = none := by
  refine List.find?_eq_none.2 fun o hm e => ?_
  have e : o.slot = s := by simpa using e
  subst e
  obtain ⟨h1, _, h3, _⟩ := h.mem o hm
  unfold openO at ho
  rw [h1, h3] at ho
  cases ho
theorem OInv.opened (h : OInv M last V C H G) {s : Int} (ho : openO V G s = true) : ∃ o ∈ M, o.slot = s ∧ M.find? (fun o => o.slot == s) = some o := by
  unfold openO at ho
  simp only [Bool.and_eq_true, Bool.not_eq_true'] at ho
  obtain ⟨o, hm, e⟩ := h.has s ho.1 ho.2
  cases hf : M.find? (fun o => o.slot == s) with
  | none => exact absurd (by simpa using e) (List.find?_eq_none.1 hf o hm)
  | some o' => exact ⟨o', List.mem_of_find?_eq_some hf, by simpa using List.find?_some hf, rfl⟩

theorem votedO_has {o : PO} {h n : Int} (c0 : 0 ≤ o.cfg) (c1 : o.cfg ≤ 255) (w0 : 0 ≤ o.who) (w1 : o.who ≤ 255) (h0 : 0 ≤ h) (h1 : h ≤ 255) (n0 : 0 ≤ n) (n1 : n ≤ 255) (hi : ∀ i, i < 7 → has7 o.who i = has7 h i) :
    ∀ i, i < 7 → has7 (votedO o n).who i = has7 (if (decide (n < 7) && has7 o.cfg n.toNat) then setWith h (setOf1 n) else h) i := by
  intro i hi7
  have hof := setOf1_bd n0
  have hb := setBoth_bd (setOf1 n) o.cfg
  show has7 (setWith o.who (setBoth (setOf1 n) o.cfg)) i = _
  rw [has_with w0 w1 hb.1 hb.2, has_both hof.1 hof.2 c0 c1, hi i hi7, has_of n0 n1 i hi7, decide_eq_true hi7, Bool.true_and, Bool.true_and]
  by_cases e : n = (i : Int)
  · subst e
    rw [decide_eq_true (rfl : (i : Int) = i), decide_eq_true (by omega : (i : Int) < 7), Int.toNat_natCast, Bool.true_and]
    cases hc : has7 o.cfg i
    · simp
    · rw [if_pos rfl, has_with h0 h1 hof.1 hof.2, has_of n0 n1 i hi7]
      simp [hi7]
  · rw [decide_eq_false e, Bool.false_and, Bool.or_false]
    split
    · rw [has_with h0 h1 hof.1 hof.2, has_of n0 n1 i hi7, decide_eq_false e]
      simp [hi7]
    · rfl

/-- A vote. -/
theorem OInv.vote (h : OInv M last V C H G) {s n : Int} (n0 : 0 ≤ n) (n1 : n ≤ 255) :
    (votedP M n s).2.2 = wantN V C (voteH V C H G n s) G s ∧ ((votedP M n s).2.2 = true → (votedP M n s).2.1 = (s, (V s).getD ByteArray.empty)) ∧
      OInv (votedP M n s).1 last V C (voteH V C H G n s) (setF G s ((G s).getD false || (votedP M n s).2.2)) := by
  cases hop : openO V G s
  · have hf := h.closed hop
    have hv : votedP M n s = (M, (0, ByteArray.empty), false) := by unfold votedP; rw [hf]
    have hH : voteH V C H G n s = H := by unfold voteH takeN; rw [hop]; rfl
    have hW : wantN V C H G s = false := by unfold wantN; rw [hop]; rfl
    rw [hv, hH, hW]
    refine ⟨rfl, (fun h => by cases h), h.rising, h.le, h.vle, fun o ho => ?_, fun t ht hg => ?_, fun t ht => ?_⟩
    · have hm := h.mem o ho
      by_cases e : o.slot = s
      · rw [e] at hm ⊢
        refine ⟨hm.1, hm.2.1, ?_, hm.2.2.2⟩
        rw [setF_same, hm.2.2.1]; rfl
      · rw [setF_other G _ e]; exact hm
    · refine h.has t ht ?_
      by_cases e : t = s
      · subst e; rw [setF_same] at hg; simpa using hg
      · rw [setF_other G _ e] at hg; exact hg
    · refine ⟨?_, (h.nope t ht).2⟩
      by_cases e : t = s
      · subst e; rw [setF_same, (h.nope t ht).1]; rfl
      · rw [setF_other G _ e]; exact (h.nope t ht).1
  · obtain ⟨o, hm, e, hf⟩ := h.opened hop
    subst e
    obtain ⟨m1, m2, m3, ⟨c0, c1⟩, ⟨w0, w1⟩, ⟨h0, h1⟩, hi⟩ := h.mem o hm
    have hH : ∀ t, (voteH V C H G n o.slot t).getD 0 = if t = o.slot then (if (decide (n < 7) && has7 o.cfg n.toNat) then setWith ((H t).getD 0) (setOf1 n) else (H t).getD 0) else (H t).getD 0 := by
      intro t
      unfold voteH takeN whoN
      rw [hop, m2]
      simp only [Bool.true_and, Option.getD_some]
      split
      · by_cases e : t = o.slot
        · subst e; rw [setF_same, if_pos rfl]; rfl
        · rw [setF_other H _ e, if_neg e]
      · split <;> rfl
    have hvh := votedO_has c0 c1 w0 w1 h0 h1 n0 n1 hi
    have hHs := hH o.slot
    rw [if_pos rfl] at hHs
    rw [← hHs] at hvh
    have hbd : 0 ≤ (voteH V C H G n o.slot o.slot).getD 0 ∧ (voteH V C H G n o.slot o.slot).getD 0 ≤ 255 := by
      rw [hHs]
      split
      · exact setWith_bd _ _
      · exact ⟨h0, h1⟩
    have hwb : 0 ≤ (votedO o n).who ∧ (votedO o n).who ≤ 255 := setWith_bd _ _
    have hwant : wantN V C (voteH V C H G n o.slot) G o.slot = setMaj o.cfg (votedO o n).who := by
      unfold wantN
      rw [hop, m2, Bool.true_and, Option.getD_some, setMaj_cnt c0 c1 hbd.1 hbd.2, setMaj_cnt c0 c1 hwb.1 hwb.2]
      exact majF_congr (fun i hi7 => by rw [hvh i hi7])
    have hv : votedP M n o.slot = if setMaj o.cfg (votedO o n).who then (closeM M o.slot, (o.slot, o.val), true) else (setM M (votedO o n), (0, ByteArray.empty), false) := by unfold votedP; rw [hf]
    rw [hwant, hv]
    cases hmj : setMaj o.cfg (votedO o n).who
    · simp only [Bool.false_eq_true, if_false]
      refine ⟨trivial, fun h => h.elim, setM_rising h.rising _, fun x hx => ?_, h.vle, fun x hx => ?_, fun t ht hg => ?_, fun t ht => ?_⟩
      · have : x.slot ∈ (setM M (votedO o n)).map PO.slot := List.mem_map.2 ⟨x, hx, rfl⟩
        rw [setM_slots] at this
        obtain ⟨y, hy, e⟩ := List.mem_map.1 this
        rw [← e]; exact h.le y hy
      · obtain ⟨y, hy, e⟩ := List.mem_map.1 hx
        by_cases hs : y.slot = (votedO o n).slot
        · rw [if_pos hs] at e
          subst e
          refine ⟨m1, m2, ?_, ⟨c0, c1⟩, hwb, hbd, hvh⟩
          show (setF G o.slot _ o.slot).getD false = false
          rw [setF_same, m3]; rfl
        · rw [if_neg hs] at e
          subst e
          have hs : y.slot ≠ o.slot := hs
          rw [setF_other G _ hs, hH y.slot, if_neg hs]
          exact h.mem y hy
      · have : ∃ y ∈ M, y.slot = t := h.has t ht (by
          by_cases e : t = o.slot
          · subst e; exact m3
          · rw [setF_other G _ e] at hg; exact hg)
        obtain ⟨y, hy, e⟩ := this
        have : y.slot ∈ M.map PO.slot := List.mem_map.2 ⟨y, hy, rfl⟩
        rw [← setM_slots M (votedO o n)] at this
        obtain ⟨z, hz, e2⟩ := List.mem_map.1 this
        exact ⟨z, hz, e2.trans e⟩
      · have e : t ≠ o.slot := fun e => by subst e; rw [m1] at ht; cases ht
        rw [setF_other G _ e, hH t, if_neg e]
        exact h.nope t ht
    · simp only [if_true]
      refine ⟨trivial, fun _ => by rw [m1]; rfl, closeM_rising h.rising _, fun x hx => h.le x (List.mem_filter.1 hx).1, h.vle, fun x hx => ?_, fun t ht hg => ?_, fun t ht => ?_⟩
      · obtain ⟨hx1, hx2⟩ := List.mem_filter.1 hx
        have hs : x.slot ≠ o.slot := by simpa using hx2
        rw [setF_other G _ hs, hH x.slot, if_neg hs]
        exact h.mem x hx1
      · by_cases e : t = o.slot
        · subst e; rw [setF_same] at hg; simp at hg
        · rw [setF_other G _ e] at hg
          obtain ⟨y, hy, e2⟩ := h.has t ht hg
          exact ⟨y, List.mem_filter.2 ⟨hy, by subst e2; simpa using e⟩, e2⟩
      · have e : t ≠ o.slot := fun e => by subst e; rw [m1] at ht; cases ht
        rw [setF_other G _ e, hH t, if_neg e]
        exact h.nope t ht

/-- How many slots the notes have open. -/
theorem OInv.count (h : OInv M last V C H G) {ss : List Int} (hn : ss.Nodup) (hs : ∀ s, s ∈ ss ↔ (V s).isSome = true) : (ss.filter (fun s => !((G s).getD false))).length = M.length := by
  have hp : (ss.filter (fun s => !((G s).getD false))).Perm (M.map PO.slot) := by
    refine (List.perm_ext_iff_of_nodup (hn.filter _) ?_).2 fun s => ?_
    · have : (M.map PO.slot).Pairwise (· < ·) := List.pairwise_map.2 h.rising.1
      exact this.imp (fun h e => by omega)
    · rw [List.mem_filter, hs, List.mem_map]
      constructor
      · rintro ⟨h1, h2⟩
        exact h.has s h1 (by simpa using h2)
      · rintro ⟨o, ho, rfl⟩
        obtain ⟨h1, _, h3, _⟩ := h.mem o ho
        exact ⟨by rw [h1]; rfl, by rw [h3]; rfl⟩
  rw [hp.length_eq, List.length_map]
end

/-- The memory: desk and notes. -/
structure OMem (w : World) (FD : Nat → Prop) (p : Value) (m1 m2 m3 m4 : Nat) (M : List PO) (last : Int) (V : Int → Option ByteArray) (C H : Int → Option Int) (G : Int → Option Bool) (k : Nat) (wr : World) : Prop where
  upd : Upd (fun _ => False) w wr
  old : ∀ j, FD j → w.heap.size ≤ j
  desk : Dsk wr FD p M last
  a1 : MapSt wr sR m1 k V
  a2 : MapSt wr uR m2 k C
  a3 : MapSt wr uR m3 k H
  a4 : MapSt wr bR m4 k G
  lo : w.heap.size ≤ m1
  n1 : m2 = m1 + 1
  n2 : m3 = m1 + 2
  n3 : m4 = m1 + 3
  f1 : ∀ j, FD j → j < m1

section
variable {w : World} {FD : Nat → Prop} {p : Value} {m1 m2 m3 m4 : Nat} {M : List PO} {last : Int} {V : Int → Option ByteArray} {C H : Int → Option Int} {G : Int → Option Bool} {k : Nat} {wr w' : World}
theorem OMem.step (h : OMem w FD p m1 m2 m3 m4 M last V C H G k wr) (hu : Upd (fun _ => False) wr w') : OMem w FD p m1 m2 m3 m4 M last V C H G k w' :=
  ⟨h.upd.trans hu (fun _ _ h => h), h.old, h.desk.upd hu (fun _ _ h => h), h.a1.upd hu id, h.a2.upd hu id, h.a3.upd hu id, h.a4.upd hu id, h.lo, h.n1, h.n2, h.n3, h.f1⟩
theorem OMem.onDesk (h : OMem w FD p m1 m2 m3 m4 M last V C H G k wr) {M' : List PO} {last' : Int} (hu : Upd FD wr w') (hd : Dsk w' FD p M' last') : OMem w FD p m1 m2 m3 m4 M' last' V C H G k w' := by
  have q1 := h.n1
  have q2 := h.n2
  have q3 := h.n3
  exact ⟨upd_new h.upd h.old hu, h.old, hd, h.a1.upd hu (fun hf => by have := h.f1 _ hf; omega), h.a2.upd hu (fun hf => by have := h.f1 _ hf; omega), h.a3.upd hu (fun hf => by have := h.f1 _ hf; omega), h.a4.upd hu (fun hf => by have := h.f1 _ hf; omega), h.lo, h.n1, h.n2, h.n3, h.f1⟩
theorem OMem.on1 (h : OMem w FD p m1 m2 m3 m4 M last V C H G k wr) (hk : k < 1000000) {s : Int} (hw : (Lit.int .u64 s).wf = true) (v : ByteArray) :
    ∃ w', (Instr.mapUpdate 57 (.map (some m1)) (.int .u64 s) (.string v)).run Try.prog wr = .ok () w' ∧ OMem w FD p m1 m2 m3 m4 M last (setF V s v) C H G (k + 1) w' ∧ Upd (fun j => j = m1) wr w' := by
  have q0 := h.lo
  have q1 := h.n1
  have q2 := h.n2
  have q3 := h.n3
  obtain ⟨w', hrun, hm, hu⟩ := h.a1.store Try.underlying57 (by simp only [maxLen]; omega) (show sR (.string v) = some (.held v, []) from rfl) hw
  exact ⟨w', hrun, ⟨h.upd.trans hu (fun i hi e => by omega), h.old, h.desk.upd hu (fun j hj e => by have := h.f1 j hj; omega), hm, (h.a2.upd hu (by omega)).more (by omega), (h.a3.upd hu (by omega)).more (by omega), (h.a4.upd hu (by omega)).more (by omega), h.lo, h.n1, h.n2, h.n3, h.f1⟩, hu⟩
theorem OMem.on2 (h : OMem w FD p m1 m2 m3 m4 M last V C H G k wr) (hk : k < 1000000) {s : Int} (hw : (Lit.int .u64 s).wf = true) (v : Int) :
    ∃ w', (Instr.mapUpdate 58 (.map (some m2)) (.int .u64 s) (.int .u8 v)).run Try.prog wr = .ok () w' ∧ OMem w FD p m1 m2 m3 m4 M last V (setF C s v) H G (k + 1) w' ∧ Upd (fun j => j = m2) wr w' := by
  have q0 := h.lo
  have q1 := h.n1
  have q2 := h.n2
  have q3 := h.n3
  obtain ⟨w', hrun, hm, hu⟩ := h.a2.store Try.underlying58 (by simp only [maxLen]; omega) (show uR (.int .u8 v) = some (.held v, []) from rfl) hw
  exact ⟨w', hrun, ⟨h.upd.trans hu (fun i hi e => by omega), h.old, h.desk.upd hu (fun j hj e => by have := h.f1 j hj; omega), (h.a1.upd hu (by omega)).more (by omega), hm, (h.a3.upd hu (by omega)).more (by omega), (h.a4.upd hu (by omega)).more (by omega), h.lo, h.n1, h.n2, h.n3, h.f1⟩, hu⟩
theorem OMem.on3 (h : OMem w FD p m1 m2 m3 m4 M last V C H G k wr) (hk : k < 1000000) {s : Int} (hw : (Lit.int .u64 s).wf = true) (v : Int) :
    ∃ w', (Instr.mapUpdate 58 (.map (some m3)) (.int .u64 s) (.int .u8 v)).run Try.prog wr = .ok () w' ∧ OMem w FD p m1 m2 m3 m4 M last V C (setF H s v) G (k + 1) w' ∧ Upd (fun j => j = m3) wr w' := by
  have q0 := h.lo
  have q1 := h.n1
  have q2 := h.n2
  have q3 := h.n3
  obtain ⟨w', hrun, hm, hu⟩ := h.a3.store Try.underlying58 (by simp only [maxLen]; omega) (show uR (.int .u8 v) = some (.held v, []) from rfl) hw
  exact ⟨w', hrun, ⟨h.upd.trans hu (fun i hi e => by omega), h.old, h.desk.upd hu (fun j hj e => by have := h.f1 j hj; omega), (h.a1.upd hu (by omega)).more (by omega), (h.a2.upd hu (by omega)).more (by omega), hm, (h.a4.upd hu (by omega)).more (by omega), h.lo, h.n1, h.n2, h.n3, h.f1⟩, hu⟩
theorem OMem.on4 (h : OMem w FD p m1 m2 m3 m4 M last V C H G k wr) (hk : k < 1000000) {s : Int} (hw : (Lit.int .u64 s).wf = true) (v : Bool) :
    ∃ w', (Instr.mapUpdate 59 (.map (some m4)) (.int .u64 s) (.bool v)).run Try.prog wr = .ok () w' ∧ OMem w FD p m1 m2 m3 m4 M last V C H (setF G s v) (k + 1) w' ∧ Upd (fun j => j = m4) wr w' := by
  have q0 := h.lo
  have q1 := h.n1
  have q2 := h.n2
  have q3 := h.n3
  obtain ⟨w', hrun, hm, hu⟩ := h.a4.store Try.underlying59 (by simp only [maxLen]; omega) (show bR (.bool v) = some (.held v, []) from rfl) hw
  exact ⟨w', hrun, ⟨h.upd.trans hu (fun i hi e => by omega), h.old, h.desk.upd hu (fun j hj e => by have := h.f1 j hj; omega), (h.a1.upd hu (by omega)).more (by omega), (h.a2.upd hu (by omega)).more (by omega), (h.a3.upd hu (by omega)).more (by omega), hm, h.lo, h.n1, h.n2, h.n3, h.f1⟩, hu⟩
theorem OMem.more {k' : Nat} (h : OMem w FD p m1 m2 m3 m4 M last V C H G k wr) (hk : k ≤ k') : OMem w FD p m1 m2 m3 m4 M last V C H G k' wr :=
  ⟨h.upd, h.old, h.desk, h.a1.more hk, h.a2.more hk, h.a3.more hk, h.a4.more hk, h.lo, h.n1, h.n2, h.n3, h.f1⟩
end

end Go.Proofs.Ytbnmildjamjjmaa
