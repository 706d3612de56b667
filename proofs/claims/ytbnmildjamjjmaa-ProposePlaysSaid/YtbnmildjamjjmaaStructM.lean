/-
  Structs of integers and texts that came in, by value or as a slice's elements: what their cells hold. Conditions: none.
-/
import Derived.Test.YtbnmildjamjjmaaBase
import Derived.Deep.Slices
import Derived.Deep.Fields
import Derived.ChangeSame
namespace Go.Proofs.Ytbnmildjamjjmaa
open Go.RowKit Go.ChangeShapes Go.WideShapes Go.Deep

inductive FK where
  | int (q : IntKind)
  | str

/-- These values are of these kinds. -/
def Goods : List FK → List Value → Prop
  | [], vs => vs = []
  | .int q :: ks, vs => ∃ z r, vs = .int q z :: r ∧ (Lit.int q z).wf = true ∧ Goods ks r
  | .str :: ks, vs => ∃ s r, vs = .string s :: r ∧ s.size ≤ maxLen ∧ Goods ks r

def FK.desc : FK → TypeDesc
  | .int q => .int q
  | .str => .string

section
variable {H : Type} {enc : TypeId × Value → H} {P : Program} {w : World} {base : Nat} {spare : Nat → Bool} {held : Bool}

theorem goods_of (ks : List FK) (fs : List Field) (hk : fs.map (fun f => P.underlying f.type) = ks.map (fun k => some k.desc)) (cs : List Value) (hl : cs.length = ks.length) (n : Nat)
    (h : ∀ (j : Nat) (f : Field) (c : Value), fs[j]? = some f → cs[j]? = some c → ∃ y, DataW.trod enc P w base spare held n f.type [c] = some y) : Goods ks cs := by
  induction ks generalizing fs cs with
  | nil => exact List.eq_nil_of_length_eq_zero hl
  | cons k ks ih =>
    match fs, cs, hk, hl with
    | f :: fs, c :: cs, hk, hl =>
      simp only [List.map_cons, List.cons.injEq] at hk
      have hr := ih fs hk.2 cs (by simpa using hl) (fun j f' c' hf hc => h (j + 1) f' c' (by simpa using hf) (by simpa using hc))
      obtain ⟨y, hy⟩ := h 0 f c rfl rfl
      cases k with
      | int q =>
        obtain ⟨z, hz, _, hw⟩ := DataW.trod_int hk.1 hy
        simp only [List.cons.injEq, and_true] at hz
        exact ⟨z, cs, by rw [hz], hw, hr⟩
      | str =>
        obtain ⟨s, hs, _, hw⟩ := DataW.trod_string hk.1 hy
        simp only [List.cons.injEq, and_true] at hs
        exact ⟨s, cs, by rw [hs], hw, hr⟩

theorem goods_trod {ks : List FK} {t : TypeId} {fs : Array Field} (hs : P.underlying t = some (.struct fs)) (hone : oneCellFields P fs = true) (hk : fs.toList.map (fun f => P.underlying f.type) = ks.map (fun k => some k.desc))
    {fuel : Nat} {cs : List Value} {x : DataW H × List MemPlace} (hl : cs.length = ks.length) (h : DataW.trod enc P w base spare held fuel t cs = some x) : Goods ks cs := by
  obtain ⟨xs, n, _, _, _, hlen, hg⟩ := DataW.trod_struct hs h
  refine goods_of (enc := enc) (w := w) (base := base) (spare := spare) (held := held) ks fs.toList hk cs hl n fun j f c hf hc => ?_
  have hf' : fs[j]? = some f := by simpa using hf
  have hj : j < fs.size := (Array.getElem?_eq_some_iff.1 hf').1
  obtain ⟨ho, hk1⟩ := hone_of hone j f hf'
  have h1 := hg j f hf'
  have hjc : j < cs.length := (List.getElem?_eq_some_iff.1 hc).1
  rw [ho, hk1, List.drop_eq_getElem_cons hjc] at h1
  simp only [List.take_succ_cons, List.take_zero] at h1
  have e : cs[j] = c := (List.getElem?_eq_some_iff.1 hc).2
  rw [e, List.getElem?_eq_getElem (by omega)] at h1
  exact ⟨_, h1⟩

/-- A struct by value. -/
theorem open_goods {r : Reach} {b0 : Nat} {ks : List FK} {t : TypeId} {fs : Array Field} {v : Value} {d : DataW H} {p : List MemPlace} (hs : P.underlying t = some (.struct fs)) (hone : oneCellFields P fs = true) (hC : P.cellsOf t = ks.length) (hk : fs.toList.map (fun f => P.underlying f.type) = ks.map (fun k => some k.desc))
    (hv : Value.okWide P w r b0 t v) (h : DataW.Trod enc P w base spare held t v d p) : ∃ cs : List Value, v = .agg cs.toArray ∧ Goods ks cs := by
  obtain ⟨cs, rfl, hsz⟩ := okWide_struct hs hv
  obtain ⟨fuel, hf⟩ := h
  exact ⟨cs.toList, by simp, goods_trod hs hone hk (by simpa [hC] using hsz) hf⟩

/-- A slice of structs, read up to its length. -/
def IsRows (ks : List FK) (w : World) (a : Option Addr) (len cap : Nat) : Prop :=
  len ≤ cap ∧ cap ≤ maxLen ∧ (0 < len → ∃ (b o : Nat), a = some ⟨b, o, none⟩ ∧ b < w.heap.size ∧ ∀ i, i < len → ∃ cs : List Value, Goods ks cs ∧ ∀ j, j < ks.length → w.cell? ⟨b, o + (i * ks.length + j), none⟩ = cs[j]?)

theorem goods_len : ∀ (ks : List FK) (cs : List Value), Goods ks cs → cs.length = ks.length
  | [], cs, h => by rw [h]; rfl
  | .int q :: ks, cs, ⟨z, r, h, _, hr⟩ => by rw [h]; simp [goods_len ks r hr]
  | .str :: ks, cs, ⟨z, r, h, _, hr⟩ => by rw [h]; simp [goods_len ks r hr]

theorem open_rows {ks : List FK} {t e : TypeId} {fs : Array Field} {a : Option Addr} {len cap : Nat} {d : DataW H} {ps : List MemPlace}
    (ht : P.underlying t = some (.slice e)) (he : P.underlying e = some (.struct fs)) (hone : oneCellFields P fs = true) (hC : P.cellsOf e = ks.length) (hk : fs.toList.map (fun f => P.underlying f.type) = ks.map (fun k => some k.desc)) (h0 : 0 < ks.length)
    (h : DataW.Trod enc P w base spare held t (.slice a len cap) d ps) : IsRows ks w a len cap := by
  obtain ⟨fuel, hf⟩ := h
  have hf' : DataW.trod enc P w base spare held fuel t [.slice a len cap] = some (d, ps) := by simpa [Value.cells] using hf
  rcases open_slice ht hf' with ⟨hcs, _⟩ | ⟨x, l, c, m, n, D, Pl, hcs, _, hl, hm, hmm, _, hi⟩
  · simp at hcs
    obtain ⟨rfl, rfl, rfl⟩ := hcs
    exact ⟨Nat.le_refl _, by simp [maxLen], fun h => absurd h (by omega)⟩
  · simp at hcs
    obtain ⟨rfl, rfl, rfl⟩ := hcs
    refine ⟨hl, hm, fun hpos => ?_⟩
    have hlm : len ≤ m := by rw [hmm]; split <;> omega
    have key : ∀ i, i < len → ∃ cs : List Value, Goods ks cs ∧ ∀ j, j < ks.length → w.cell? (x.add (i * ks.length + j)) = cs[j]? := by
      intro i hil
      obtain ⟨cs', hc, ht'⟩ := hi i (by omega)
      rw [hC] at hc
      obtain ⟨_, hcl, hat⟩ := World.cells?_some hc
      have hg := goods_trod he hone hk (by omega) ht'
      refine ⟨cs', hg, fun j hj => ?_⟩
      have h2 := hat j hj
      rw [add_add] at h2
      exact h2
    obtain ⟨b, o, sp⟩ := x
    obtain ⟨cs0, hg0, hc0⟩ := key 0 hpos
    have hlen0 := goods_len ks cs0 hg0
    have hz0 := hc0 0 h0
    rw [List.getElem?_eq_getElem (by omega)] at hz0
    have hsp : sp = none := by
      have := World.cell?_spot hz0
      simpa [Addr.add] using this
    subst hsp
    have hb : b < w.heap.size := by
      have := World.block_lt_of_cell? w _ hz0
      simpa [Addr.add] using this
    have hadd : ∀ q, (⟨b, o, none⟩ : Addr).add q = ⟨b, o + q, none⟩ := fun q => by unfold Addr.add; split <;> simp_all
    refine ⟨b, o, rfl, hb, fun i hil => ?_⟩
    obtain ⟨cs, hg, hc⟩ := key i hil
    exact ⟨cs, hg, fun j hj => by rw [← hadd]; exact hc j hj⟩
end
end Go.Proofs.Ytbnmildjamjjmaa
