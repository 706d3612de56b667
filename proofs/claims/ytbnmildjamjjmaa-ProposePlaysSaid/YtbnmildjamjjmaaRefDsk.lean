/-
  The reference desk in memory: a slice of structs that hold slices of nodes. Its Close. Conditions: at most 1000 open slots.
-/
import Derived.Test.YtbnmildjamjjmaaRef8
namespace Go.Proofs.Ytbnmildjamjjmaa
open Go.RowKit

/-- An open slot of the reference, with the two slices that hold its nodes. -/
structure RX where
  slot : Int
  val : ByteArray
  vc : Value
  vh : Value
  cfg : List Int
  who : List Int
def xCells (x : RX) : List Value := [.int .u64 x.slot, .string x.val, x.vc, x.vh]
/-- A slice of them, readable. -/
def RDesk (w : World) (G : Nat → Prop) (v : Value) (L : List RX) : Prop :=
  Sl w G 4 v L.length (L.flatMap xCells) ∧ ∀ x ∈ L, Sl w G 1 x.vc x.cfg.length (x.cfg.map (Value.int .u8)) ∧ Sl w G 1 x.vh x.who.length (x.who.map (Value.int .u8))

theorem RDesk.upd {w w' : World} {F G : Nat → Prop} {v : Value} {L : List RX} (h : RDesk w F v L) (hu : Upd G w w') (hd : ∀ k, F k → ¬ G k) : RDesk w' F v L :=
  ⟨h.1.upd hu hd, fun x hx => ⟨(h.2 x hx).1.upd hu hd, (h.2 x hx).2.upd hu hd⟩⟩
theorem RDesk.more {w : World} {F G : Nat → Prop} {v : Value} {L : List RX} (h : RDesk w F v L) (hd : ∀ k, F k → G k) : RDesk w G v L :=
  ⟨h.1.more hd, fun x hx => ⟨(h.2 x hx).1.more hd, (h.2 x hx).2.more hd⟩⟩
theorem RDesk.nil (w : World) (G : Nat → Prop) : RDesk w G (.slice none 0 0) [] := ⟨Sl.nil _ _ _, by simp⟩

theorem flat4 : ∀ (L : List RX) (k : Nat) (hk : k < L.length) (j : Nat), j < 4 → (L.flatMap xCells)[k * 4 + j]? = (xCells L[k])[j]?
  | x :: L, 0, _, j, hj => by
    rw [List.flatMap_cons, List.getElem?_append_left (by simp [xCells]; omega)]
    simp
  | x :: L, k + 1, hk, j, hj => by
    rw [List.flatMap_cons, List.getElem?_append_right (by simp [xCells]; omega)]
    have := flat4 L k (by simpa using hk) j hj
    rw [show (k + 1) * 4 + j - (xCells x).length = k * 4 + j by simp [xCells]; omega, this]
    simp
theorem RDesk.row {w : World} {G : Nat → Prop} {v : Value} {L : List RX} (h : RDesk w G v L) {k : Nat} (hk : k < L.length) :
    ∃ b o c, v = .slice (some ⟨b, o, none⟩) L.length c ∧ G b ∧ b < w.heap.size ∧ w.cell? ⟨b, o + k * 4, none⟩ = some (.int .u64 L[k].slot) ∧ w.cell? ⟨b, o + k * 4 + 1, none⟩ = some (.string L[k].val) ∧ w.cell? ⟨b, o + k * 4 + 2, none⟩ = some L[k].vc ∧ w.cell? ⟨b, o + k * 4 + 3, none⟩ = some L[k].vh := by
  obtain ⟨_, A, c, rfl, _, _, _, hx⟩ := h.1
  obtain ⟨b, o, rfl, hG, hb, hc⟩ := hx (by omega)
  refine ⟨b, o, c, rfl, hG, hb, ?_, ?_, ?_, ?_⟩
  · have := hc (k * 4 + 0) (.int .u64 L[k].slot) (by rw [flat4 L k hk 0 (by omega)]; rfl)
    rwa [← Nat.add_assoc, Nat.add_zero] at this
  · have := hc (k * 4 + 1) (.string L[k].val) (by rw [flat4 L k hk 1 (by omega)]; rfl)
    rwa [← Nat.add_assoc] at this
  · have := hc (k * 4 + 2) L[k].vc (by rw [flat4 L k hk 2 (by omega)]; rfl)
    rwa [← Nat.add_assoc] at this
  · have := hc (k * 4 + 3) L[k].vh (by rw [flat4 L k hk 3 (by omega)]; rfl)
    rwa [← Nat.add_assoc] at this

/-- The reference's Close. -/
def closeR (L : List RX) (s : Int) : List RX := L.filter fun x => x.slot != s
theorem closeR_take {L : List RX} {s : Int} {k : Nat} (hk : k < L.length) : closeR (L.take (k + 1)) s = closeR (L.take k) s ++ if (L[k].slot != s) = true then [L[k]] else [] := by
  unfold closeR
  rw [List.take_succ_eq_append_getElem hk, List.filter_append]
  congr 1
  rw [List.filter_cons]
  split <;> simp
theorem closeR_len (L : List RX) (s : Int) : (closeR L s).length ≤ L.length := List.length_filter_le _ _

theorem infoROpen : (Try.prog.info? 69).map (fun i => (i.zero, i.size, i.bytes)) = some (some (.agg #[.int .u64 0, .string ByteArray.empty, .slice none 0 0, .slice none 0 0]), 4, 72) := by kernel_rfl

end Go.Proofs.Ytbnmildjamjjmaa
