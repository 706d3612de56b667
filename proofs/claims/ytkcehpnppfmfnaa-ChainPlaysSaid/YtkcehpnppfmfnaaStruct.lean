/-
  A slice of structs of integers that came in: what its cells hold. Conditions: none.
-/
import Derived.Test.YtkcehpnppfmfnaaBase
import Derived.Deep.Slices
import Derived.Deep.Fields
import Derived.ChangeSame
namespace Go.Proofs.Ytkcehpnppfmfnaa
open Go.RowKit Go.ChangeShapes Go.WideShapes Go.Deep

/-- A slice of structs of integers of these kinds, read up to its length. -/
def IsInts (ks : List IntKind) (w : World) (a : Option Addr) (len cap : Nat) : Prop :=
  len ≤ cap ∧ cap ≤ maxLen ∧ (0 < len → ∃ (b o : Nat) (zs : Nat → Nat → Int), a = some ⟨b, o, none⟩ ∧ b < w.heap.size ∧ ∀ i, i < len → ∀ j k, ks[j]? = some k → w.cell? ⟨b, o + (i * ks.length + j), none⟩ = some (.int k (zs i j)) ∧ (Lit.int k (zs i j)).wf = true)

theorem ints_row {H : Type} {enc : TypeId × Value → H} {P : Program} {w : World} {base : Nat} {spare : Nat → Bool} {held : Bool} {ks : List IntKind} {t e : TypeId} {fs : Array Field} {a : Option Addr} {len cap : Nat} {d : DataW H} {ps : List MemPlace}
    (ht : P.underlying t = some (.slice e)) (he : P.underlying e = some (.struct fs)) (hone : oneCellFields P fs = true) (hC : P.cellsOf e = fs.size) (hks : fs.size = ks.length)
    (hk : ∀ (j : Nat) k, ks[j]? = some k → ∃ f : Field, fs[j]? = some f ∧ P.underlying f.type = some (.int k)) (h0 : 0 < ks.length)
    (h : DataW.Trod enc P w base spare held t (.slice a len cap) d ps) : IsInts ks w a len cap := by
  obtain ⟨fuel, hf⟩ := h
  have hf' : DataW.trod enc P w base spare held fuel t [.slice a len cap] = some (d, ps) := by simpa [Value.cells] using hf
  rcases open_slice ht hf' with ⟨hcs, _⟩ | ⟨x, l, c, m, n, D, Pl, hcs, _, hl, hm, hmm, _, hi⟩
  · simp at hcs
    obtain ⟨rfl, rfl, rfl⟩ := hcs
    exact ⟨Nat.le_refl _, by simp [maxLen], fun h => absurd h (by omega)⟩
  · simp at hcs
    obtain ⟨rfl, rfl, rfl⟩ := hcs
    refine ⟨hl, hm, fun hpos => ?_⟩
    have hlm : len ≤ m := by rw [hmm]; split <;> omega
    have key : ∀ i, i < len → ∀ j k, ks[j]? = some k → ∃ z : Int, w.cell? (x.add (i * ks.length + j)) = some (.int k z) ∧ (Lit.int k z).wf = true := by
      intro i hil j k hjk
      obtain ⟨cs', hc, ht'⟩ := hi i (by omega)
      rw [hC, hks] at hc
      obtain ⟨ys, n', _, _, hlen, _, hfl⟩ := DataW.trod_struct he ht'
      obtain ⟨_, hcl, hat⟩ := World.cells?_some hc
      obtain ⟨f, hfj, hfk⟩ := hk j k hjk
      have hj : j < ks.length := (List.getElem?_eq_some_iff.1 hjk).1
      obtain ⟨ho, hk1⟩ := hone_of hone j f hfj
      have h1 := hfl j f hfj
      rw [ho, hk1, List.drop_eq_getElem_cons (by omega)] at h1
      simp only [List.take_succ_cons, List.take_zero] at h1
      have h2 := hat j hj
      rw [add_add] at h2
      rcases hy : ys[j]? with _ | y
      · have hys : j < ys.length := by omega
        rw [List.getElem?_eq_getElem hys] at hy
        simp at hy
      · rw [hy] at h1
        obtain ⟨z, hz, _, hw⟩ := DataW.trod_int hfk h1
        refine ⟨z, ?_, hw⟩
        rw [h2, List.getElem?_eq_getElem (by omega)]
        simp at hz
        rw [hz]
    obtain ⟨b, o, sp⟩ := x
    obtain ⟨k0, hk0⟩ : ∃ k, ks[0]? = some k := ⟨_, List.getElem?_eq_getElem h0⟩
    obtain ⟨z0, hz0, _⟩ := key 0 hpos 0 k0 hk0
    have hsp : sp = none := by
      have := World.cell?_spot hz0
      simpa [Addr.add] using this
    subst hsp
    have hb : b < w.heap.size := by
      have := World.block_lt_of_cell? w _ hz0
      simpa [Addr.add] using this
    have hadd : ∀ q, (⟨b, o, none⟩ : Addr).add q = ⟨b, o + q, none⟩ := fun q => by unfold Addr.add; split <;> simp_all
    refine ⟨b, o, fun i j => match w.cell? ⟨b, o + (i * ks.length + j), none⟩ with | some (.int _ z) => z | _ => 0, rfl, hb, fun i hil j k hjk => ?_⟩
    obtain ⟨z, hz, hw⟩ := key i hil j k hjk
    rw [hadd] at hz
    simp only [hz]
    exact ⟨trivial, hw⟩
end Go.Proofs.Ytkcehpnppfmfnaa
