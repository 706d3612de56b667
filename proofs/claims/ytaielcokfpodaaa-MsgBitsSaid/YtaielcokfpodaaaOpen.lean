/-
  Arguments of any struct of numbers, texts, truths, structs and slices that came in: their cells, one after another. Conditions: none.
-/
import Derived.Test.YtaielcokfpodaaaBase
import Derived.Deep.Slices
import Derived.Deep.Fields
import Derived.ChangeSame
namespace Go.Proofs.Ytaielcokfpodaaa
open Go.RowKit Go.ChangeShapes Go.WideShapes Go.Deep

/-- What a cell is. -/
inductive Ck where
  | int (q : IntKind)
  | str
  | bool
  | row (e : TypeId)

/-- The cells of a type, one after another. -/
def flatFs (P : Program) (g : TypeId → Option (List Ck)) (tot : Nat) : Nat → List Field → Option (List Ck)
  | o, [] => if o = tot then some [] else none
  | o, f :: fs => if f.offset = o then
      match g f.type, flatFs P g tot (o + P.cellsOf f.type) fs with
      | some a, some b => if a.length = P.cellsOf f.type then some (a ++ b) else none
      | _, _ => none
    else none
def flat (P : Program) : Nat → TypeId → Option (List Ck)
  | 0, _ => none
  | n + 1, t => match P.underlying t with
    | some (.int q) => some [.int q]
    | some .string => some [.str]
    | some .bool => some [.bool]
    | some (.slice e) => some [.row e]
    | some (.struct fs) => flatFs P (flat P n) (P.cellsOf t) 0 fs.toList
    | _ => none

section
variable {H : Type} (enc : TypeId × Value → H) (P : Program) (w : World) (base : Nat) (spare : Nat → Bool) (held : Bool)
/-- A slice that came in: its elements' cells. -/
def RowIn (e : TypeId) (v : Value) : Prop :=
  ∃ a len cap, v = .slice a len cap ∧ len ≤ cap ∧ cap ≤ maxLen ∧ (a = none → cap = 0) ∧
    (0 < len → 0 < P.cellsOf e → ∃ b o, a = some ⟨b, o, none⟩ ∧ b < w.heap.size ∧ ∀ i, i < len → ∃ cs : List Value, (∃ fuel x, DataW.trod enc P w base spare held fuel e cs = some x) ∧ cs.length = P.cellsOf e ∧ ∀ j, j < P.cellsOf e → w.cell? ⟨b, o + (i * P.cellsOf e + j), none⟩ = cs[j]?)
def CkIs : Ck → Value → Prop
  | .int q, v => ∃ z, v = .int q z ∧ (Lit.int q z).wf = true
  | .str, v => ∃ s : ByteArray, v = .string s ∧ s.size ≤ maxLen
  | .bool, v => ∃ b, v = .bool b
  | .row e, v => RowIn enc P w base spare held e v
def CksAre : List Ck → List Value → Prop
  | [], vs => vs = []
  | k :: ks, vs => ∃ v r, vs = v :: r ∧ CkIs enc P w base spare held k v ∧ CksAre ks r
end
section
variable {H : Type} {enc : TypeId × Value → H} {P : Program} {w : World} {base : Nat} {spare : Nat → Bool} {held : Bool}
theorem CksAre.append {a b : List Ck} {u v : List Value} (h : CksAre enc P w base spare held a u) (k : CksAre enc P w base spare held b v) : CksAre enc P w base spare held (a ++ b) (u ++ v) := by
  induction a generalizing u with
  | nil =>
    have : u = [] := h
    subst this
    exact k
  | cons x a ih =>
    obtain ⟨y, r, rfl, h1, h2⟩ := h
    exact ⟨y, r ++ v, rfl, h1, ih h2⟩
theorem rowIn_of {t e : TypeId} {fuel : Nat} {cs : List Value} {x : DataW H × List MemPlace} (ht : P.underlying t = some (.slice e)) (h : DataW.trod enc P w base spare held fuel t cs = some x) : ∃ v, cs = [v] ∧ RowIn enc P w base spare held e v := by
  rcases DataW.trod_slice ht h with ⟨rfl, _⟩ | ⟨a, len, cap, el, rest, n, _, rfl, _, _, hl, hm, hlen, hi, _, _⟩
  · exact ⟨_, rfl, none, 0, 0, rfl, Nat.le_refl _, by simp [maxLen], fun _ => rfl, fun h => absurd h (by omega)⟩
  · refine ⟨_, rfl, some a, len, cap, rfl, hl, hm, (fun h => by cases h), fun hpos hC => ?_⟩
    have key : ∀ i, i < len → ∃ cs : List Value, (∃ fuel x, DataW.trod enc P w base spare held fuel e cs = some x) ∧ cs.length = P.cellsOf e ∧ ∀ j, j < P.cellsOf e → w.cell? (a.add (i * P.cellsOf e + j)) = cs[j]? := by
      intro i hil
      have h1 := hi i hil
      rw [List.getElem?_eq_getElem (by omega), Option.bind_eq_some_iff] at h1
      obtain ⟨cs, hc, ht'⟩ := h1
      obtain ⟨_, hcl, hat⟩ := World.cells?_some hc
      refine ⟨cs, ⟨_, _, ht'⟩, hcl, fun j hj => ?_⟩
      have h2 := hat j hj
      rw [add_add] at h2
      exact h2
    obtain ⟨b, o, sp⟩ := a
    obtain ⟨cs0, _, hlen0, hc0⟩ := key 0 hpos
    have hz0 := hc0 0 hC
    rw [List.getElem?_eq_getElem (by omega)] at hz0
    have hsp : sp = none := by
      have := World.cell?_spot hz0
      simpa [Addr.add] using this
    subst hsp
    have hb : b < w.heap.size := by
      have := World.block_lt_of_cell? w _ hz0
      simpa [Addr.add] using this
    have hadd : ∀ q, (⟨b, o, none⟩ : Addr).add q = ⟨b, o + q, none⟩ := fun q => by unfold Addr.add; split <;> simp_all
    refine ⟨b, o, rfl, hb, fun i hil => ?_⟩
    obtain ⟨cs, h1, h2, h3⟩ := key i hil
    exact ⟨cs, h1, h2, fun j hj => by rw [← hadd]; exact h3 j hj⟩
theorem flatFs_are {g : TypeId → Option (List Ck)} {tot n : Nat} (hg : ∀ t ks, g t = some ks → ∀ cs x, DataW.trod enc P w base spare held n t cs = some x → CksAre enc P w base spare held ks cs) (cs : List Value) (hl : cs.length = tot) :
    ∀ (fs : List Field) (o : Nat) (ks : List Ck), flatFs P g tot o fs = some ks → (∀ f ∈ fs, ∃ y, DataW.trod enc P w base spare held n f.type ((cs.drop f.offset).take (P.cellsOf f.type)) = some y) → CksAre enc P w base spare held ks (cs.drop o)
  | [], o, ks, h, _ => by
    unfold flatFs at h
    split at h
    · cases h
      show cs.drop o = []
      rw [List.drop_eq_nil_iff]
      omega
    · cases h
  | f :: fs, o, ks, h, hf => by
    unfold flatFs at h
    split at h
    · rename_i ho
      split at h
      · rename_i a b ha hb
        split at h
        · cases h
          obtain ⟨y, hy⟩ := hf f (List.mem_cons_self ..)
          have h1 := hg _ _ ha _ _ hy
          have h2 := flatFs_are hg cs hl fs _ _ hb (fun f' hf' => hf f' (List.mem_cons_of_mem _ hf'))
          rw [ho] at h1
          have e : cs.drop o = (cs.drop o).take (P.cellsOf f.type) ++ cs.drop (o + P.cellsOf f.type) := by
            rw [← List.drop_drop, List.take_append_drop]
          rw [e]
          exact h1.append h2
        · cases h
      · cases h
    · cases h
theorem flat_are : ∀ (n : Nat) (t : TypeId) (ks : List Ck), flat P n t = some ks → ∀ (fuel : Nat) (cs : List Value) (x : DataW H × List MemPlace), DataW.trod enc P w base spare held fuel t cs = some x → CksAre enc P w base spare held ks cs
  | 0, _, _, h, _, _, _, _ => by cases h
  | n + 1, t, ks, h, fuel, cs, x, hx => by
    unfold flat at h
    split at h
    · rename_i q hu
      cases h
      obtain ⟨z, rfl, _, hw⟩ := DataW.trod_int hu hx
      exact ⟨_, _, rfl, ⟨z, rfl, hw⟩, rfl⟩
    · rename_i hu
      cases h
      obtain ⟨s, rfl, _, hw⟩ := DataW.trod_string hu hx
      exact ⟨_, _, rfl, ⟨s, rfl, hw⟩, rfl⟩
    · rename_i hu
      cases h
      obtain ⟨b, rfl, _⟩ := DataW.trod_bool hu hx
      exact ⟨_, _, rfl, ⟨b, rfl⟩, rfl⟩
    · rename_i e hu
      cases h
      obtain ⟨v, rfl, hr⟩ := rowIn_of hu hx
      exact ⟨_, _, rfl, hr, rfl⟩
    · rename_i fs hu
      obtain ⟨xs, m, _, _, hl, hlen, hf⟩ := DataW.trod_struct hu hx
      have := flatFs_are (n := m) (fun t ks hk cs x hx => flat_are n t ks hk m cs x hx) cs hl fs.toList 0 ks h (fun f hfm => by
        obtain ⟨i, hi, he⟩ := List.getElem_of_mem hfm
        have hi' : i < fs.size := by simpa using hi
        have hfi : fs[i]? = some f := by
          rw [Array.getElem?_eq_getElem hi']
          simpa using he
        have h1 := hf i f hfi
        exact ⟨_, h1.trans (List.getElem?_eq_getElem (by omega))⟩)
      rwa [List.drop_zero] at this
    · cases h
/-- A struct by value: its cells. -/
theorem open_flat {r : Reach} {b0 n : Nat} {ks : List Ck} {t : TypeId} {fs : Array Field} {v : Value} {d : DataW H} {p : List MemPlace} (hs : P.underlying t = some (.struct fs)) (hk : flat P n t = some ks)
    (hv : Value.okWide P w r b0 t v) (h : DataW.Trod enc P w base spare held t v d p) : ∃ cs : List Value, v = .agg cs.toArray ∧ CksAre enc P w base spare held ks cs := by
  obtain ⟨cs, rfl, hsz⟩ := okWide_struct hs hv
  obtain ⟨fuel, hf⟩ := h
  exact ⟨cs.toList, by simp, flat_are n t ks hk fuel _ _ hf⟩
theorem CksAre.length : ∀ {ks : List Ck} {vs : List Value}, CksAre enc P w base spare held ks vs → vs.length = ks.length
  | [], vs, h => by
    have : vs = [] := h
    rw [this]
    rfl
  | _ :: ks, vs, ⟨v, r, e, _, h⟩ => by
    rw [e]
    simp [CksAre.length h]
theorem flat_len {α : Type} {cells : α → List Value} {k : Nat} (hcl : ∀ a, (cells a).length = k) : ∀ L : List α, (L.flatMap cells).length = L.length * k
  | [] => by simp
  | y :: L => by
    rw [List.flatMap_cons, List.length_append, hcl, flat_len hcl L, List.length_cons, Nat.succ_mul]
    omega
/-- A slice that came in, its elements read as a list by f. -/
theorem RowIn.list {α : Type} {e : TypeId} {v : Value} {n : Nat} {ks : List Ck} (h : RowIn enc P w base spare held e v) (hk : flat P n e = some ks) (hC : P.cellsOf e = ks.length) (h0 : 0 < ks.length)
    (cells : α → List Value) (Q : α → Prop) (hcl : ∀ a, (cells a).length = ks.length) (hd : ∀ cs, CksAre enc P w base spare held ks cs → ∃ a, cs = cells a ∧ Q a) :
    ∃ L : List α, Sl w (fun k => k < w.heap.size) ks.length v L.length (L.flatMap cells) ∧ (∀ a ∈ L, Q a) ∧ L.length ≤ maxLen := by
  obtain ⟨a, len, cap, rfl, hl, hm, ha, hx⟩ := h
  rcases Nat.eq_zero_or_pos len with rfl | hpos
  · exact ⟨[], ⟨by simp, a, cap, rfl, Nat.zero_le _, hm, ha, fun h => absurd h (by simp)⟩, by simp, by simp⟩
  · obtain ⟨b, o, rfl, hb, hi⟩ := hx hpos (by omega)
    have key : ∀ m, m ≤ len → ∃ L : List α, L.length = m ∧ (∀ a ∈ L, Q a) ∧ ∀ j u, (L.flatMap cells)[j]? = some u → w.cell? ⟨b, o + j, none⟩ = some u := by
      intro m
      induction m with
      | zero => exact fun _ => ⟨[], rfl, by simp, by simp⟩
      | succ m ih =>
        intro hml
        obtain ⟨L, e1, e2, e3⟩ := ih (by omega)
        obtain ⟨cs, ⟨fuel, x, hx⟩, hcl', hcell⟩ := hi m (by omega)
        obtain ⟨al, rfl, hq⟩ := hd cs (flat_are n e ks hk fuel cs x hx)
        refine ⟨L ++ [al], by simp [e1], fun a' ha' => ?_, fun j u hu => ?_⟩
        · rcases List.mem_append.1 ha' with h | h
          · exact e2 _ h
          · simp at h
            rw [h]
            exact hq
        · have hfl : (L.flatMap cells).length = m * ks.length := by rw [flat_len hcl, e1]
          rw [List.flatMap_append, List.flatMap_cons, List.flatMap_nil, List.append_nil] at hu
          by_cases hj : j < m * ks.length
          · rw [List.getElem?_append_left (by omega)] at hu
            exact e3 j u hu
          · rw [List.getElem?_append_right (by omega)] at hu
            have hjl := (List.getElem?_eq_some_iff.1 hu).1
            rw [hcl] at hjl
            have := hcell (j - m * ks.length) (by omega)
            rw [hC, show m * ks.length + (j - m * ks.length) = j by omega] at this
            rw [this, ← hfl]
            exact hu
    obtain ⟨L, e1, e2, e3⟩ := key len (Nat.le_refl _)
    refine ⟨L, ⟨?_, _, cap, by rw [e1], by omega, hm, (fun h => by cases h), fun _ => ⟨b, o, rfl, hb, hb, e3⟩⟩, e2, by omega⟩
    exact flat_len hcl L
end
end Go.Proofs.Ytaielcokfpodaaa
