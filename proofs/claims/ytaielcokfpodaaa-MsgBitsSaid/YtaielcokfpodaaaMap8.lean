/-
  Maps whose keys are bytes, read as functions. Conditions: none.
-/
import Derived.Test.YtaielcokfpodaaaMsgP
import Derived.Maps.OwnIn
import Derived.Maps.RangeWalk
import Derived.Maps.Ext
namespace Go.Proofs.Ytaielcokfpodaaa
open Go.RowKit Go.Maps

theorem keyedE : Keyed Try.prog 5 := int_keyed Try.underlying5
theorem keyE {s : Int} (hw : (Lit.int .u8 s).wf = true) : keyOf Try.prog 5 (.int .u8 s) = some (.int .u8 s) := keyOf_int_mk Try.underlying5 hw
theorem keyLit_int (q : IntKind) (s : Int) : WideAt.IsKeyLit (.int q s) := trivial
theorem wf_u8_ {n : Int} (h0 : 0 ≤ n) (h1 : n ≤ 255) : (Lit.int .u8 n).wf = true := by
  simp [Lit.wf, IntKind.min, IntKind.max, IntKind.signed, IntKind.bits]; omega
theorem owns_upd {w w' : World} {F : Nat → Prop} {m n : Nat} {H : Type} {R : Value → Option (DataW H × List MemPlace)} {P : Program} {k : TypeId} {D : DataW H} (hm : w.ownsMap P k R m n D) (hu : Upd F w w') (hf : ¬ F m) : w'.ownsMap P k R m n D := by
  have hl := hm.lt
  obtain ⟨es, clock, hb, Ft, hs, hD⟩ := hm
  exact ⟨es, clock, (hu.block m hl hf).trans hb, Ft, hs, hD⟩
theorem turned_upd {w w' : World} {m : Nat} (h : w.mapTurned w' m) : Upd (fun k => k = m) w w' := (Upd.refl _ _).grown h.grown (fun k hk => .inl (by cases hk; rfl))

/-- The datum reads as the function f. -/
def RdE {α : Type} (D : DataW α) (f : Int → Option α) : Prop :=
  Tidy D ∧ ∀ s : Int, (Lit.int .u8 s).wf = true → Maps.has D (.int .u8 s) = (f s).isSome ∧ ∀ z, D.atKey (.int .u8 s) z = (match f s with | some x => .held x | none => z)
def setE {α : Type} (f : Int → Option α) (s : Int) (x : α) : Int → Option α := fun t => if t = s then some x else f t
/-- A map in memory that reads as f. -/
def MapE {α : Type} (w : World) (R : Value → Option (DataW α × List MemPlace)) (m n : Nat) (f : Int → Option α) : Prop := ∃ D, w.ownsMap Try.prog 5 R m n D ∧ RdE D f

section
variable {α : Type} {w w' : World} {R : Value → Option (DataW α × List MemPlace)} {m n : Nat} {f : Int → Option α}
theorem MapE.upd {F : Nat → Prop} (h : MapE w R m n f) (hu : Upd F w w') (hf : ¬ F m) : MapE w' R m n f := by
  obtain ⟨D, h1, h2⟩ := h
  exact ⟨D, owns_upd h1 hu hf, h2⟩
theorem MapE.lt (h : MapE w R m n f) : m < w.heap.size := by
  obtain ⟨D, h1, _⟩ := h
  exact h1.lt
theorem MapE.more {n' : Nat} (h : MapE w R m n f) (hn : n ≤ n') : MapE w R m n' f := by
  obtain ⟨D, ⟨es, clock, hb, F, hs, rfl⟩, h2⟩ := h
  exact ⟨_, ⟨es, clock, hb, F, Nat.le_trans hs hn, rfl⟩, h2⟩
theorem MapE.look (h : MapE w R m n f) {t e : TypeId} (ht : Try.prog.underlying t = some (.map 5 e)) (mk : α → Value) (hmk : ∀ v x ps, R v = some (.held x, ps) → v = mk x) (z : α) (hz : (zeroValue e).run Try.prog w = .ok (mk z) w) (hR : R (mk z) = some (.held z, [])) {s : Int} (hw : (Lit.int .u8 s).wf = true) :
    (Instr.lookup t (.map (some m)) (.int .u8 s) false).run Try.prog w = .ok (mk ((f s).getD z)) w := by
  obtain ⟨D, h1, _, h2⟩ := h
  obtain ⟨v, ps, hrun, hv⟩ := h1.lookup keyedE ht hz hR (keyE hw)
  rw [(h2 s hw).2] at hv
  rw [hrun]
  cases hf : f s with
  | none => rw [hf] at hv; rw [hmk _ _ _ hv]; rfl
  | some x => rw [hf] at hv; rw [hmk _ _ _ hv]; rfl
theorem MapE.look_ok (h : MapE w R m n f) {t e : TypeId} (ht : Try.prog.underlying t = some (.map 5 e)) (mk : α → Value) (hmk : ∀ v x ps, R v = some (.held x, ps) → v = mk x) (z : α) (hz : (zeroValue e).run Try.prog w = .ok (mk z) w) (hR : R (mk z) = some (.held z, [])) {s : Int} (hw : (Lit.int .u8 s).wf = true) :
    (Instr.lookup t (.map (some m)) (.int .u8 s) true).run Try.prog w = .ok (.tuple #[mk ((f s).getD z), .bool (f s).isSome]) w := by
  obtain ⟨D, h1, _, h2⟩ := h
  obtain ⟨v, ps, hrun, hv⟩ := h1.look_ok keyedE ht hz hR (keyE hw)
  rw [(h2 s hw).2] at hv
  rw [hrun, (h2 s hw).1]
  cases hf : f s with
  | none => rw [hf] at hv; rw [hmk _ _ _ hv]; rfl
  | some x => rw [hf] at hv; rw [hmk _ _ _ hv]; rfl
theorem rdE_put {D : DataW α} (h : RdE D f) (s : Int) (x : α) : RdE (D.put (.int .u8 s) (.held x)) (setE f s x) := by
  obtain ⟨h1, h2⟩ := h
  refine ⟨h1.put (keyLit_int _ _) _, fun t ht => ?_⟩
  unfold setE
  by_cases e : t = s
  · subst e
    rw [if_pos rfl]
    exact ⟨by rw [has_put_same h1.isMap (keyLit_int _ _)]; rfl, fun z => atKey_put_same h1.isMap (keyLit_int _ _) _ _⟩
  · rw [if_neg e, has_put_other (by simpa using e)]
    exact ⟨(h2 t ht).1, fun z => by rw [atKey_put_other (by simpa using e)]; exact (h2 t ht).2 z⟩
theorem MapE.store (h : MapE w R m n f) {t e : TypeId} (ht : Try.prog.underlying t = some (.map 5 e)) (hn : n < maxLen) {v : Value} {x : α} (hR : R v = some (.held x, [])) {s : Int} (hw : (Lit.int .u8 s).wf = true) :
    ∃ w', (Instr.mapUpdate t (.map (some m)) (.int .u8 s) v).run Try.prog w = .ok () w' ∧ MapE w' R m (n + 1) (setE f s x) ∧ Upd (fun k => k = m) w w' := by
  obtain ⟨D, h1, h2⟩ := h
  obtain ⟨w', hrun, h3, h4⟩ := h1.store keyedE ht hn (keyE hw) hR
  exact ⟨w', hrun, ⟨_, h3, rdE_put h2 s x⟩, turned_upd h4⟩
end
theorem rdE_nil {α : Type} : RdE (.map [] : DataW α) (fun _ => none) := ⟨tidy_empty, fun _ _ => ⟨rfl, fun _ => rfl⟩⟩
theorem setE_same {α : Type} (f : Int → Option α) (s : Int) (x : α) : setE f s x s = some x := if_pos rfl
theorem setE_other {α : Type} (f : Int → Option α) {s t : Int} (x : α) (h : t ≠ s) : setE f s x t = f t := if_neg h
/-- A map that was just made. -/
theorem MapE.made {α : Type} (w : World) (R : Value → Option (DataW α × List MemPlace)) {m : Nat} (hm : m = w.heap.size) : MapE (w.alloc (.map #[] 0)) R m 0 (fun _ => none) := by
  rw [hm]; exact ⟨_, World.ownsMap_made _ _ _ _, rdE_nil⟩

end Go.Proofs.Ytaielcokfpodaaa
