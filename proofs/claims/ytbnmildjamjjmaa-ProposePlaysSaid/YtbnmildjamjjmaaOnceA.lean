/-
  ProposeOnce: its parts. Maps of whole numbers read as functions; great; Has; the plain law of the statement's own notes. Conditions: none.
-/
import Derived.Test.YtbnmildjamjjmaaPropF
import Derived.Test.YtbnmildjamjjmaaSetP
import Derived.Test.YtbnmildjamjjmaaStructM
namespace Go.Proofs.Ytbnmildjamjjmaa
open Go.RowKit Go.Maps

theorem has_any (s n : Int) (w : World) (s0 : 0 ≤ s) (s1 : s ≤ 255) (n0 : 0 ≤ n) (n1 : n ≤ 255) :
    Calls Try.prog 23 #[.int .u8 s, .int .u8 n] w fun e w' => e = .returned (.bool (decide (n < 7) && has7 s n.toNat)) ∧ w = w' := by
  by_cases h7 : n < 7
  · have hb : ∀ (s : Fin 256) (n : Fin 7), bits .and .u8 ((s.val : Int) / 2 ^ ((n.val : Int).toNat)) 1 = (if has7 (s.val : Int) n.val then 1 else 0) := by decide +kernel
    obtain ⟨t, rfl⟩ := fin_of s0 s1
    obtain ⟨m, rfl⟩ : ∃ m : Fin 7, n = (m.val : Int) := ⟨⟨n.toNat, by omega⟩, by simp; omega⟩
    have HB := Lib.hid (hb t m)
    rw [Int.toNat_natCast]
    rw [decide_eq_true h7, Bool.true_and]
    clear hb
    generalize (t.val : Int) = s at *
    generalize hq : m.val = q at *
    clear hq
    go_enter Try.func23, Try.ntmps23
    go_wp2
    go_ret
    exact ⟨ret_bool (by have h := HB.out; rw [Int.toNat_natCast] at h; rw [h]; cases has7 s q <;> rfl), rfl⟩
  · rw [decide_eq_false h7, Bool.false_and]
    go_enter Try.func23, Try.ntmps23
    go_wp2
    go_ret
    exact ⟨rfl, rfl⟩

/-- The datum reads as the function f. -/
def RdF {α : Type} (D : DataW α) (f : Int → Option α) : Prop :=
  Tidy D ∧ ∀ s : Int, (Lit.int .u64 s).wf = true → Maps.has D (.int .u64 s) = (f s).isSome ∧ ∀ z, D.atKey (.int .u64 s) z = (match f s with | some x => .held x | none => z)
def setF {α : Type} (f : Int → Option α) (s : Int) (x : α) : Int → Option α := fun t => if t = s then some x else f t
/-- A map in memory that reads as f. -/
def MapSt {α : Type} (w : World) (R : Value → Option (DataW α × List MemPlace)) (m n : Nat) (f : Int → Option α) : Prop := ∃ D, w.ownsMap Try.prog 28 R m n D ∧ RdF D f

section
variable {α : Type} {w w' : World} {R : Value → Option (DataW α × List MemPlace)} {m n : Nat} {f : Int → Option α}
theorem MapSt.upd {F : Nat → Prop} (h : MapSt w R m n f) (hu : Upd F w w') (hf : ¬ F m) : MapSt w' R m n f := by
  obtain ⟨D, h1, h2⟩ := h
  exact ⟨D, owns_upd h1 hu hf, h2⟩
theorem MapSt.lt (h : MapSt w R m n f) : m < w.heap.size := by
  obtain ⟨D, h1, _⟩ := h
  exact h1.lt
theorem MapSt.more {n' : Nat} (h : MapSt w R m n f) (hn : n ≤ n') : MapSt w R m n' f := by
  obtain ⟨D, ⟨es, clock, hb, F, hs, rfl⟩, h2⟩ := h
  exact ⟨_, ⟨es, clock, hb, F, Nat.le_trans hs hn, rfl⟩, h2⟩
theorem MapSt.look (h : MapSt w R m n f) {t e : TypeId} (ht : Try.prog.underlying t = some (.map 28 e)) (mk : α → Value) (hmk : ∀ v x ps, R v = some (.held x, ps) → v = mk x) (z : α) (hz : (zeroValue e).run Try.prog w = .ok (mk z) w) (hR : R (mk z) = some (.held z, [])) {s : Int} (hw : (Lit.int .u64 s).wf = true) :
    (Instr.lookup t (.map (some m)) (.int .u64 s) false).run Try.prog w = .ok (mk ((f s).getD z)) w := by
  obtain ⟨D, h1, _, h2⟩ := h
  obtain ⟨v, ps, hrun, hv⟩ := h1.lookup keyedU ht hz hR (keyU hw)
  rw [(h2 s hw).2] at hv
  rw [hrun]
  cases hf : f s with
  | none => rw [hf] at hv; rw [hmk _ _ _ hv]; rfl
  | some x => rw [hf] at hv; rw [hmk _ _ _ hv]; rfl
theorem MapSt.look_ok (h : MapSt w R m n f) {t e : TypeId} (ht : Try.prog.underlying t = some (.map 28 e)) (mk : α → Value) (hmk : ∀ v x ps, R v = some (.held x, ps) → v = mk x) (z : α) (hz : (zeroValue e).run Try.prog w = .ok (mk z) w) (hR : R (mk z) = some (.held z, [])) {s : Int} (hw : (Lit.int .u64 s).wf = true) :
    (Instr.lookup t (.map (some m)) (.int .u64 s) true).run Try.prog w = .ok (.tuple #[mk ((f s).getD z), .bool (f s).isSome]) w := by
  obtain ⟨D, h1, _, h2⟩ := h
  obtain ⟨v, ps, hrun, hv⟩ := h1.look_ok keyedU ht hz hR (keyU hw)
  rw [(h2 s hw).2] at hv
  rw [hrun, (h2 s hw).1]
  cases hf : f s with
  | none => rw [hf] at hv; rw [hmk _ _ _ hv]; rfl
  | some x => rw [hf] at hv; rw [hmk _ _ _ hv]; rfl
theorem rdF_put {D : DataW α} (h : RdF D f) (s : Int) (x : α) : RdF (D.put (.int .u64 s) (.held x)) (setF f s x) := by
  obtain ⟨h1, h2⟩ := h
  refine ⟨h1.put (keyLit_int _ _) _, fun t ht => ?_⟩
  unfold setF
  by_cases e : t = s
  · subst e
    rw [if_pos rfl]
    exact ⟨by rw [has_put_same h1.isMap (keyLit_int _ _)]; rfl, fun z => atKey_put_same h1.isMap (keyLit_int _ _) _ _⟩
  · rw [if_neg e, has_put_other (by simpa using e)]
    exact ⟨(h2 t ht).1, fun z => by rw [atKey_put_other (by simpa using e)]; exact (h2 t ht).2 z⟩
theorem MapSt.store (h : MapSt w R m n f) {t e : TypeId} (ht : Try.prog.underlying t = some (.map 28 e)) (hn : n < maxLen) {v : Value} {x : α} (hR : R v = some (.held x, [])) {s : Int} (hw : (Lit.int .u64 s).wf = true) :
    ∃ w', (Instr.mapUpdate t (.map (some m)) (.int .u64 s) v).run Try.prog w = .ok () w' ∧ MapSt w' R m (n + 1) (setF f s x) ∧ Upd (fun k => k = m) w w' := by
  obtain ⟨D, h1, h2⟩ := h
  obtain ⟨w', hrun, h3, h4⟩ := h1.store keyedU ht hn (keyU hw) hR
  exact ⟨w', hrun, ⟨_, h3, rdF_put h2 s x⟩, turned_upd h4⟩
end
theorem rdF_nil {α : Type} : RdF (.map [] : DataW α) (fun _ => none) := ⟨tidy_empty, fun _ _ => ⟨rfl, fun _ => rfl⟩⟩

def sR : Value → Option (DataW ByteArray × List MemPlace)
  | .string v => some (.held v, [])
  | _ => none
def uR : Value → Option (DataW Int × List MemPlace)
  | .int .u8 v => some (.held v, [])
  | _ => none
def bR : Value → Option (DataW Bool × List MemPlace)
  | .bool v => some (.held v, [])
  | _ => none
theorem sR_inv (v : Value) (x : ByteArray) (ps : List MemPlace) (h : sR v = some (.held x, ps)) : v = .string x := by
  unfold sR at h
  split at h
  · simp only [Option.some.injEq, Prod.mk.injEq, DataW.held.injEq] at h; rw [h.1]
  · cases h
theorem uR_inv (v : Value) (x : Int) (ps : List MemPlace) (h : uR v = some (.held x, ps)) : v = .int .u8 x := by
  unfold uR at h
  split at h
  · simp only [Option.some.injEq, Prod.mk.injEq, DataW.held.injEq] at h; rw [h.1]
  · cases h
theorem bR_inv (v : Value) (x : Bool) (ps : List MemPlace) (h : bR v = some (.held x, ps)) : v = .bool x := by
  unfold bR at h
  split at h
  · simp only [Option.some.injEq, Prod.mk.injEq, DataW.held.injEq] at h; rw [h.1]
  · cases h
theorem zeroS (w : World) : (zeroValue 9).run Try.prog w = .ok (.string ByteArray.empty) w := by kernel_rfl
theorem zeroW (w : World) : (zeroValue 37).run Try.prog w = .ok (.int .u8 0) w := by kernel_rfl
theorem zeroB (w : World) : (zeroValue 4).run Try.prog w = .ok (.bool false) w := by kernel_rfl

section
variable {w : World} {m n : Nat} {s : Int} (hw : (Lit.int .u64 s).wf = true)
include hw
theorem lookS {f : Int → Option ByteArray} (h : MapSt w sR m n f) : (Instr.lookup 57 (.map (some m)) (.int .u64 s) true).run Try.prog w = .ok (.tuple #[.string ((f s).getD ByteArray.empty), .bool (f s).isSome]) w :=
  h.look_ok Try.underlying57 Value.string sR_inv _ (zeroS w) rfl hw
theorem lookW {f : Int → Option Int} (h : MapSt w uR m n f) : (Instr.lookup 58 (.map (some m)) (.int .u64 s) false).run Try.prog w = .ok (.int .u8 ((f s).getD 0)) w :=
  h.look Try.underlying58 (Value.int .u8) uR_inv _ (zeroW w) rfl hw
theorem lookB {f : Int → Option Bool} (h : MapSt w bR m n f) : (Instr.lookup 59 (.map (some m)) (.int .u64 s) false).run Try.prog w = .ok (.bool ((f s).getD false)) w :=
  h.look Try.underlying59 Value.bool bR_inv _ (zeroB w) rfl hw
end

set_option maxHeartbeats 1000000 in
theorem great_any (a : Option Addr) (len cap : Nat) (w : World) (h : IsRows [.int .u8, .int .u64, .str, .int .u8, .int .u8] w a len cap) :
    Calls Try.prog 7 #[.slice a len cap] w fun e w' => (e = .returned (.bool true) ∨ (e = .returned (.bool false) ∧ len ≤ 200)) ∧ w = w' := by
  obtain ⟨hlc, hm, hx⟩ := h
  have HX := Lib.hid hx
  unfold maxLen at hm
  have hl63 : (len : Int) ≤ 9223372036854775807 := by omega
  clear hx
  by_cases hg : 200 < (len : Int)
  · go_enter Try.func7, Try.ntmps7
    go_wp2_with fail
    go_ret
    exact ⟨.inl rfl, rfl⟩
  have hg' : (len : Int) ≤ 200 := by omega
  go_enter Try.func7, Try.ntmps7
  go_wp2_with fail
  go_loopw [3] (fun i wr => ∃ k : Nat, k ≤ len ∧ i = .int .i64 k ∧ wr = w) (fun i _ => len - (intOf i).toNat)
  case atStart => exact ⟨0, Nat.zero_le _, rfl, rfl⟩
  case round =>
    obtain ⟨k, hk, rfl, rfl⟩ := hrel
    by_cases hlt : k < len
    · obtain ⟨b, o, rfl, _, hc⟩ := HX.out (by omega)
      obtain ⟨cs, hgd, hcell⟩ := hc k hlt
      obtain ⟨d, _, rfl, _, s, _, rfl, _, v, _, rfl, hv, c, _, rfl, _, n, _, rfl, _, rfl⟩ := hgd
      have e2 := hcell 2 (by decide)
      simp only [List.length_cons, List.length_nil, Nat.zero_add, Nat.reduceAdd] at e2
      rw [← Nat.add_assoc] at e2
      have e2 : wr.cell? ⟨b, o + k * 5 + 2, none⟩ = some (.string v) := e2
      clear hcell
      by_cases hv1 : (100 : Int) < (v.size : Int)
      · go_wp2_with fail
        go_ret
        exact ⟨.inl rfl, rfl⟩
      · go_wp2_with fail
        go_roundw
        case rel => exact ⟨k + 1, by omega, by go_num, trivial⟩
        case measure => simp [intOf]; omega
    · have hke : k = len := by omega
      subst hke
      go_wp2_with fail
      go_ret
      exact ⟨.inr ⟨rfl, by omega⟩, rfl⟩

end Go.Proofs.Ytbnmildjamjjmaa
