/-
  Words for a range over a function: what a round keeps ('KeepTo'), what an iterator's own steps leave. No program in sight. Conditions: none.
-/
import Derived.RangeFuncNested
import Derived.RangeFuncBound
import Derived.RangeFuncCalls
import Derived.RangeFuncLeaves
import Derived.Shelf.Abstract
import Derived.Shelf.RegionOpen
import Derived.OwnWalkIn
import Derived.TacticsInMore
import Derived.LoopNIn
import Derived.LoopIn
import Derived.RangeFuncFrom
import Derived.Test.YtbnmildjamjjmaaBase
namespace Go.Proofs.Ytbnmildjamjjmaa
open Go.RowKit Go.Shelf

/-- Below block number n₁ nothing but F's blocks has changed. -/
structure KeepTo (n₁ : Nat) (F : Nat → Prop) (w w' : World) : Prop where
  os : w'.os = w.os
  tape : w'.tape = w.tape
  output : w'.output = w.output
  size : w.heap.size ≤ w'.heap.size
  block : ∀ k, k < n₁ → ¬ F k → w'.heap[k]? = w.heap[k]?

section
variable {n₁ : Nat} {F : Nat → Prop} {a b c w w' : World}
theorem KeepTo.refl (n₁ : Nat) (F : Nat → Prop) (w : World) : KeepTo n₁ F w w := ⟨rfl, rfl, rfl, Nat.le_refl _, fun _ _ _ => rfl⟩
theorem KeepTo.trans (h : KeepTo n₁ F a b) (k : KeepTo n₁ F b c) : KeepTo n₁ F a c :=
  ⟨k.os.trans h.os, k.tape.trans h.tape, k.output.trans h.output, Nat.le_trans h.size k.size, fun i hi hf => (k.block i hi hf).trans (h.block i hi hf)⟩
theorem KeepTo.drewN (h : KeepTo n₁ F a w) (n : Nat) : KeepTo n₁ F a (w.drewN n) := ⟨h.os, h.tape, h.output, h.size, h.block⟩
theorem KeepTo.drew (h : KeepTo n₁ F a w) : KeepTo n₁ F a w.drew := ⟨h.os, h.tape, h.output, h.size, h.block⟩
theorem KeepTo.alloc (h : KeepTo n₁ F a w) (hn : n₁ ≤ w.heap.size) (o : Obj) : KeepTo n₁ F a (w.alloc o) :=
  ⟨h.os, h.tape, h.output, Nat.le_trans h.size (by simp), fun i hi hf => (Below.heap_alloc w o i (by omega)).trans (h.block i hi hf)⟩
theorem KeepTo.setCell (h : KeepTo n₁ F a w) {p : Addr} (hp : F p.block ∨ n₁ ≤ p.block) (u : Value) : KeepTo n₁ F a (w.setCell p u) :=
  ⟨h.os, h.tape, h.output, by simpa [World.setCell] using h.size, fun i hi hf => (Below.heap_setCell w p u i (by
    rintro rfl
    rcases hp with hp | hp
    · exact hf hp
    · omega)).trans (h.block i hi hf)⟩
theorem KeepTo.grown {row : Option Nat} (h : KeepTo n₁ F a w) (hg : w.grownBy w' row) (hn : n₁ ≤ w.heap.size) (hr : ∀ k, row = some k → F k ∨ n₁ ≤ k) : KeepTo n₁ F a w' :=
  ⟨hg.os.trans h.os, hg.tape.trans h.tape, hg.output.trans h.output, Nat.le_trans h.size hg.size, fun i hi hf => (hg.block i (by omega) (fun e => by
    rcases hr i e.symm with hp | hp
    · exact hf hp
    · omega)).trans (h.block i hi hf)⟩
theorem KeepTo.of_upd {G : Nat → Prop} (h : Upd G w w') (hn : n₁ ≤ w.heap.size) (hs : ∀ k, k < n₁ → G k → F k) : KeepTo n₁ F w w' :=
  ⟨h.os, h.tape, h.output, h.size, fun i hi hf => h.block i (by omega) (fun hg => hf (hs i hi hg))⟩
theorem KeepTo.upd (h : KeepTo w.heap.size F w w') : Upd F w w' := ⟨h.os, h.tape, h.output, h.size, h.block⟩
theorem KeepTo.cell (h : KeepTo n₁ F w w') {p : Addr} (hp : p.block < n₁) (hf : ¬ F p.block) : w'.cell? p = w.cell? p := World.cell?_of_block (w := w) (h.block p.block hp hf)
theorem KeepTo.mono {m : Nat} (h : KeepTo n₁ F w w') (hm : m ≤ n₁) : KeepTo m F w w' := ⟨h.os, h.tape, h.output, h.size, fun k hk => h.block k (by omega)⟩
theorem KeepTo.more {G : Nat → Prop} (h : KeepTo n₁ F w w') (hs : ∀ k, k < n₁ → F k → G k) : KeepTo n₁ G w w' := ⟨h.os, h.tape, h.output, h.size, fun k hk hg => h.block k hk (fun hf => hg (hs k hk hf))⟩
theorem keepTo_b {w : World} (hn : n₁ ≤ w.heap.size) (W : World) (l : Nat) (o o' : Obj) (hl : w.heap.size ≤ l) (h : W.heap[l]? = some o) (_ : o.isCells = false) (_ : o.isWalk = false) : KeepTo n₁ F W (W.putObj l o') :=
  (KeepTo.refl n₁ F W).grown (grownBy_putObj' W l o') (by have := (Array.getElem?_eq_some_iff.1 h).1; omega) (fun k e => by cases e; right; omega)
theorem ownFrom_keepTo {β : Type} {B : Nat} {w₀ : World} (hn : n₁ ≤ w₀.heap.size) (hB : n₁ ≤ B) : OwnFrom B (fun (_ : β) W => KeepTo n₁ F w₀ W) :=
  fun _ _ _ _ hs hg hr => hs.grown hg (Nat.le_trans hn hs.size) (fun k e => .inr (Nat.le_trans hB (hr k e).1))
theorem others_of_upd {W W' : World} (h : Upd (fun _ => False) W W') : KeepsOthers W W' := ⟨h.size, fun k _ hk _ => (h.block k (Array.getElem?_eq_some_iff.1 hk).1 id).trans hk⟩
theorem grown_drewN (w : World) (n : Nat) : w.grownBy (w.drewN n) none := ⟨rfl, rfl, rfl, Nat.le_refl _, fun _ _ _ => rfl⟩
theorem grown_of_upd {W W' : World} (h : Upd (fun _ => False) W W') : W.grownBy W' none := ⟨h.os, h.tape, h.output, h.size, fun k hk _ => h.block k hk id⟩
theorem abides_upd {β : Type} {B : Nat} {J : β → World → Prop} (h : AbidesFrom B J) {s : β} {W W' : World} (hs : J s W) (hu : Upd (fun _ => False) W W') : J s W' := h s W W' none hs (grown_of_upd hu) (fun r e => by cases e)
end

end Go.Proofs.Ytbnmildjamjjmaa
