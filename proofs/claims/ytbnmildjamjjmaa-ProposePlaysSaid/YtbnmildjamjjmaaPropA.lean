/-
  Package propose: a desk in memory (its map, its last slot), what New, Open, Close, Voted and Last do to it. Conditions: fewer than 100000 open slots.
-/
import Derived.Test.YtbnmildjamjjmaaMember
import Derived.Maps.OwnIn
import Derived.Maps.RangeWalk
import Derived.Maps.Ext
import Derived.Deep.RegionHeld3
import Derived.Deep.RegionLaw
import Derived.Deep.DeepCutAuto
namespace Go.Proofs.Ytbnmildjamjjmaa
open Go.RowKit Go.Maps

/-- An open slot. -/
structure PO where
  slot : Int
  val : ByteArray
  cfg : Int
  who : Int
def oVal (o : PO) : Value := .agg #[.int .u64 o.slot, .string o.val, .int .u8 o.cfg, .int .u8 o.who]
def oRl : List Value → Option (DataW PO × List MemPlace)
  | [.int .u64 s, .string v, .int .u8 c, .int .u8 h] => some (.held ⟨s, v, c, h⟩, [])
  | _ => none
def oR : Value → Option (DataW PO × List MemPlace)
  | .agg cs => oRl cs.toList
  | _ => none
theorem oR_mk (o : PO) : oR (oVal o) = some (.held o, []) := rfl
theorem oR_inv {v : Value} {o : PO} {ps : List MemPlace} (h : oR v = some (.held o, ps)) : v = oVal o := by
  cases v <;> try (simp [oR] at h; done)
  rename_i cs
  simp only [oR] at h
  unfold oRl at h
  split at h
  · rename_i e
    simp only [Option.some.injEq, Prod.mk.injEq, DataW.held.injEq] at h
    rw [← h.1]
    unfold oVal
    rw [← Array.toArray_toList (xs := cs), e]
  · cases h

theorem keyedU : Keyed Try.prog 28 := int_keyed Try.underlying28
theorem zeroO (w : World) : (zeroValue 63).run Try.prog w = .ok (oVal ⟨0, ByteArray.empty, 0, 0⟩) w := by kernel_rfl
theorem wf_u64_ {n : Int} (h0 : 0 ≤ n) (h1 : n ≤ 18446744073709551615) : (Lit.int .u64 n).wf = true := by
  simp [Lit.wf, IntKind.min, IntKind.max, IntKind.signed, IntKind.bits]; omega
theorem keyU {s : Int} (hw : (Lit.int .u64 s).wf = true) : keyOf Try.prog 28 (.int .u64 s) = some (.int .u64 s) := keyOf_int_mk Try.underlying28 hw

/-- The datum D is just the open slots M. -/
structure Reads (D : DataW PO) (M : List PO) : Prop where
  tidy : Tidy D
  has : ∀ s : Int, (Lit.int .u64 s).wf = true → Maps.has D (.int .u64 s) = M.any (fun o => o.slot == s)
  at_ : ∀ o ∈ M, ∀ z, D.atKey (.int .u64 o.slot) z = .held o
  size : Maps.size D = M.length

/-- The open slots' slots rise, within the numbers that a key may have. -/
def Rising (M : List PO) : Prop := M.Pairwise (fun a b => a.slot < b.slot) ∧ ∀ o ∈ M, (Lit.int .u64 o.slot).wf = true

/-- A desk in memory. -/
def Dsk (w : World) (F : Nat → Prop) (p : Value) (M : List PO) (last : Int) : Prop :=
  ∃ b m n D, p = .pointer (some ⟨b, 0, none⟩) ∧ F b ∧ F m ∧ Blk w b 66 #[.map (some m), .int .u64 last] ∧ w.ownsMap Try.prog 28 oR m n D ∧ Reads D M

theorem blk_ne_map {w : World} {b m n : Nat} {t : TypeId} {cs : Array Value} {H : Type} {R : Value → Option (DataW H × List MemPlace)} {P : Program} {k : TypeId} {D : DataW H} (h : Blk w b t cs) (hm : w.ownsMap P k R m n D) : b ≠ m := by
  rintro rfl
  obtain ⟨es, clock, hb, _⟩ := hm
  unfold Blk at h
  rw [h] at hb
  cases hb
theorem owns_tight {w : World} {m n : Nat} {H : Type} {R : Value → Option (DataW H × List MemPlace)} {P : Program} {k : TypeId} {D : DataW H} (hm : w.ownsMap P k R m n D) : w.ownsMap P k R m (Maps.size D) D := by
  obtain ⟨es, clock, hb, F, hs, rfl⟩ := hm
  exact ⟨es, clock, hb, F, by simp [Maps.size, length_sorted], rfl⟩
theorem owns_upd {w w' : World} {F : Nat → Prop} {m n : Nat} {H : Type} {R : Value → Option (DataW H × List MemPlace)} {P : Program} {k : TypeId} {D : DataW H} (hm : w.ownsMap P k R m n D) (hu : Upd F w w') (hf : ¬ F m) : w'.ownsMap P k R m n D := by
  have hl := hm.lt
  obtain ⟨es, clock, hb, Ft, hs, hD⟩ := hm
  exact ⟨es, clock, (hu.block m hl hf).trans hb, Ft, hs, hD⟩
theorem turned_upd {w w' : World} {m : Nat} (h : w.mapTurned w' m) : Upd (fun k => k = m) w w' := (Upd.refl _ _).grown h.grown (fun k hk => .inl (by cases hk; rfl))

section
variable {w w' : World} {F G : Nat → Prop} {p : Value} {M : List PO} {last : Int}
theorem Dsk.upd (h : Dsk w F p M last) (hu : Upd G w w') (hd : ∀ k, F k → ¬ G k) : Dsk w' F p M last := by
  obtain ⟨b, m, n, D, rfl, hb, hm, hB, hO, hR⟩ := h
  exact ⟨b, m, n, D, rfl, hb, hm, hB.upd hu (hd b hb), owns_upd hO hu (hd m hm), hR⟩
theorem Dsk.more (h : Dsk w F p M last) (hd : ∀ k, F k → G k) : Dsk w G p M last := by
  obtain ⟨b, m, n, D, rfl, hb, hm, hB, hO, hR⟩ := h
  exact ⟨b, m, n, D, rfl, hd b hb, hd m hm, hB, hO, hR⟩
theorem Dsk.lt (h : Dsk w F p M last) : Dsk w (fun k => F k ∧ k < w.heap.size) p M last := by
  obtain ⟨b, m, n, D, rfl, hb, hm, hB, hO, hR⟩ := h
  exact ⟨b, m, n, D, rfl, ⟨hb, hB.lt⟩, ⟨hm, hO.lt⟩, hB, hO, hR⟩
theorem Dsk.drewN (h : Dsk w F p M last) (n : Nat) : Dsk (w.drewN n) F p M last := h
theorem Dsk.ptr (h : Dsk w F p M last) : ∃ b, p = .pointer (some ⟨b, 0, none⟩) := by
  obtain ⟨b, m, n, D, rfl, _⟩ := h
  exact ⟨b, rfl⟩
end

theorem reads_nil : Reads (.map []) [] := ⟨tidy_empty, fun _ _ => rfl, by simp, rfl⟩

/-- A desk in new blocks alone. -/
def DskNew (w : World) (p : Value) (M : List PO) (last : Int) (w' : World) : Prop :=
  Upd (fun _ => False) w w' ∧ Dsk w' (fun k => w.heap.size ≤ k ∧ k < w'.heap.size) p M last

theorem pnew_any (w : World) : Calls Try.prog 9 #[] w fun e w' => ∃ p, e = .returned p ∧ DskNew w p [] 0 w' := by
  have hmm := @run_makeMap Try.prog
  go_enter Try.func9, Try.ntmps9
  go_wp2
  go_ret
  refine ⟨_, rfl, ((Upd.refl _ _).alloc _).alloc _, ?_⟩
  refine ⟨w.heap.size + 1, w.heap.size, 0, .map [], rfl, by simp, by simp; omega, Blk.newAt _ _ _ (by simp), ?_, reads_nil⟩
  exact (World.ownsMap_made _ _ _ _).alloc _

/-- What Open answers. -/
def openBad (slot cfg : Int) : Bool := decide (slot = 0 ∨ 4611686018427387904 < slot ∨ setLen cfg = 0 ∨ setWith cfg 0 ≠ cfg)
def openE (slot cfg last : Int) : Int := if openBad slot cfg then 2 else if slot ≤ last then 13 else 0

theorem popen_nil (slot : Int) (v : ByteArray) (cfg : Int) (w : World) :
    Calls Try.prog 11 #[.pointer none, .int .u64 slot, .string v, .int .u8 cfg] w fun e w' => e = .returned (.int .i64 1) ∧ w = w' := by
  go_enter Try.func11, Try.ntmps11
  go_wp2_with fail
  go_ret
  exact ⟨rfl, rfl⟩

set_option maxHeartbeats 1000000 in
theorem popen_bad {w : World} (b : Nat) (slot : Int) (v : ByteArray) (cfg : Int) (hbad : openBad slot cfg = true) :
    Calls Try.prog 11 #[.pointer (some ⟨b, 0, none⟩), .int .u64 slot, .string v, .int .u8 cfg] w fun e w' => e = .returned (.int .i64 2) ∧ w = w' := by
  have hbad' := of_decide_eq_true hbad
  clear hbad
  by_cases h0 : slot = 0
  · subst h0
    clear hbad'
    go_enter Try.func11, Try.ntmps11
    go_wp2_with fail
    go_ret
    exact ⟨rfl, rfl⟩
  have h0' : (slot == 0) = false := beq_eq_false_iff_ne.2 h0
  by_cases h1 : 4611686018427387904 < slot
  · have h1' : decide (4611686018427387904 < slot) = true := decide_eq_true h1
    clear h1 hbad' h0
    go_enter Try.func11, Try.ntmps11
    go_wp2_with fail
    go_ret
    exact ⟨rfl, rfl⟩
  have h1' : decide (4611686018427387904 < slot) = false := decide_eq_false h1
  by_cases h2 : setLen cfg = 0
  · have HL := Lib.hid (fun (wx : World) => h2 ▸ len_any cfg wx)
    clear hbad' h0 h1 h2
    go_enter Try.func11, Try.ntmps11
    go_wp2_with fail
    refine (HL.out _).mono ?_
    rintro e w' ⟨rfl, rfl⟩
    go_wp2_with fail
    go_ret
    exact ⟨rfl, rfl⟩
  have h2' : (setLen cfg == 0) = false := beq_eq_false_iff_ne.2 h2
  have h3 : setWith cfg 0 ≠ cfg := by
    rcases hbad' with h | h | h | h
    · exact absurd h h0
    · exact absurd h h1
    · exact absurd h h2
    · exact h
  have h3' : (setWith cfg 0 != cfg) = true := by simpa using h3
  clear hbad' h0 h1 h2 h3
  go_enter Try.func11, Try.ntmps11
  go_wp2_with fail
  refine (len_any _ _).mono ?_
  rintro e w' ⟨rfl, rfl⟩
  go_wp2_with fail
  refine (with_any _ _ _).mono ?_
  rintro e w' ⟨rfl, rfl⟩
  go_wp2_with fail
  go_ret
  exact ⟨rfl, rfl⟩

theorem keyLit_int (q : IntKind) (s : Int) : WideAt.IsKeyLit (.int q s) := trivial
theorem any_slot {M : List PO} {s : Int} : M.any (fun o => o.slot == s) = true ↔ ∃ o ∈ M, o.slot = s := by simp
theorem any_slot_no {M : List PO} {s : Int} (h : ∀ o ∈ M, o.slot ≠ s) : M.any (fun o => o.slot == s) = false := by
  rw [List.any_eq_false]
  intro o ho
  simpa using h o ho

theorem reads_push {D : DataW PO} {M : List PO} (h : Reads D M) (o : PO) (hw : (Lit.int .u64 o.slot).wf = true) (hn : ∀ x ∈ M, x.slot ≠ o.slot) : Reads (D.put (.int .u64 o.slot) (.held o)) (M ++ [o]) := by
  refine ⟨h.tidy.put (keyLit_int _ _) _, fun s hs => ?_, fun x hx z => ?_, ?_⟩
  · by_cases e : s = o.slot
    · subst e
      rw [has_put_same h.tidy.isMap (keyLit_int _ _)]
      simp
    · rw [has_put_other (by simpa using e), h.has s hs]
      have : ¬ o.slot = s := fun h => e h.symm
      simp [this]
  · rcases List.mem_append.1 hx with hx | hx
    · rw [atKey_put_other (by simpa using hn x hx)]
      exact h.at_ x hx z
    · rw [List.mem_singleton] at hx
      subst hx
      exact atKey_put_same h.tidy.isMap (keyLit_int _ _) _ _
  · rw [size_put h.tidy, h.has _ hw, any_slot_no hn, h.size]
    simp

/-- The open slots without one. -/
def closeM (M : List PO) (s : Int) : List PO := M.filter (fun o => !(o.slot == s))
theorem closeM_len {M : List PO} {s : Int} (h : M.Pairwise (fun a b => a.slot < b.slot)) : (closeM M s).length + (if M.any (fun o => o.slot == s) then 1 else 0) = M.length := by
  induction M with
  | nil => rfl
  | cons x M ih =>
    obtain ⟨h1, h2⟩ := List.pairwise_cons.1 h
    have ih := ih h2
    unfold closeM at ih ⊢
    by_cases e : x.slot = s
    · have hno : M.any (fun o => o.slot == s) = false := any_slot_no (fun o ho => by have := h1 o ho; omega)
      rw [hno] at ih
      simp only [Bool.false_eq_true, if_false] at ih
      simp [e] at ih ⊢
      omega
    · simp [e] at ih ⊢
      omega
theorem reads_close {D : DataW PO} {M : List PO} (h : Reads D M) (hr : Rising M) {s : Int} (hw : (Lit.int .u64 s).wf = true) : Reads (D.del (.int .u64 s)) (closeM M s) := by
  refine ⟨h.tidy.del _, fun t ht => ?_, fun x hx z => ?_, ?_⟩
  · by_cases e : t = s
    · subst e
      rw [has_del_same, any_slot_no]
      intro o ho
      have := (List.mem_filter.1 ho).2
      simpa using this
    · rw [has_del_other (by simpa using e), h.has t ht]
      rw [Bool.eq_iff_iff, any_slot, any_slot]
      unfold closeM
      constructor
      · rintro ⟨o, ho, rfl⟩
        exact ⟨o, List.mem_filter.2 ⟨ho, by simpa using e⟩, rfl⟩
      · rintro ⟨o, ho, rfl⟩
        exact ⟨o, (List.mem_filter.1 ho).1, rfl⟩
  · obtain ⟨hx1, hx2⟩ := List.mem_filter.1 hx
    have hne : x.slot ≠ s := by simpa using hx2
    rw [atKey_del_other (by simpa using hne)]
    exact h.at_ x hx1 z
  · have h1 := size_del (k := .int .u64 s) h.tidy
    have h2 := closeM_len (s := s) hr.1
    rw [h.has s hw, h.size] at h1
    omega
theorem closeM_rising {M : List PO} (h : Rising M) (s : Int) : Rising (closeM M s) :=
  ⟨h.1.filter _, fun o ho => h.2 o (List.mem_filter.1 ho).1⟩

/-- One open slot is put anew. -/
def setM (M : List PO) (o : PO) : List PO := M.map fun x => if x.slot = o.slot then o else x
theorem setM_slots (M : List PO) (o : PO) : (setM M o).map PO.slot = M.map PO.slot := by
  unfold setM
  rw [List.map_map]
  refine List.map_congr_left fun x _ => ?_
  show (if x.slot = o.slot then o else x).slot = x.slot
  split
  · rename_i h; exact h.symm
  · rfl
theorem rising_of_slots {M N : List PO} (h : Rising M) (he : N.map PO.slot = M.map PO.slot) : Rising N := by
  refine ⟨?_, fun o ho => ?_⟩
  · have h1 : (M.map PO.slot).Pairwise (· < ·) := List.pairwise_map.2 h.1
    rw [← he] at h1
    exact List.pairwise_map.1 h1
  · have : o.slot ∈ M.map PO.slot := he ▸ List.mem_map.2 ⟨o, ho, rfl⟩
    obtain ⟨x, hx, e⟩ := List.mem_map.1 this
    rw [← e]
    exact h.2 x hx
theorem setM_rising {M : List PO} (h : Rising M) (o : PO) : Rising (setM M o) := rising_of_slots h (setM_slots M o)
theorem any_of_slots {M N : List PO} (he : N.map PO.slot = M.map PO.slot) (s : Int) : N.any (fun o => o.slot == s) = M.any (fun o => o.slot == s) := by
  have : ∀ L : List PO, L.any (fun o => o.slot == s) = (L.map PO.slot).any (· == s) := fun L => by rw [List.any_map]; rfl
  rw [this, this, he]
theorem reads_set {D : DataW PO} {M : List PO} (h : Reads D M) {o : PO} (hw : (Lit.int .u64 o.slot).wf = true) (hm : M.any (fun x => x.slot == o.slot) = true) : Reads (D.put (.int .u64 o.slot) (.held o)) (setM M o) := by
  refine ⟨h.tidy.put (keyLit_int _ _) _, fun s hs => ?_, fun x hx z => ?_, ?_⟩
  · rw [any_of_slots (setM_slots M o)]
    by_cases e : s = o.slot
    · subst e
      rw [has_put_same h.tidy.isMap (keyLit_int _ _), hm]
    · rw [has_put_other (by simpa using e), h.has s hs]
  · obtain ⟨y, hy, e⟩ := List.mem_map.1 hx
    by_cases hs : y.slot = o.slot
    · rw [if_pos hs] at e
      subst e
      exact atKey_put_same h.tidy.isMap (keyLit_int _ _) _ _
    · rw [if_neg hs] at e
      subst e
      rw [atKey_put_other (by simpa using hs)]
      exact h.at_ y hy z
  · rw [size_put h.tidy, h.has _ hw, hm, h.size]
    simp [setM]

theorem openBad_no {slot cfg : Int} (h : openBad slot cfg = false) : slot ≠ 0 ∧ slot ≤ 4611686018427387904 ∧ setLen cfg ≠ 0 ∧ setWith cfg 0 = cfg := by
  have h := of_decide_eq_false h
  refine ⟨fun e => h (.inl e), ?_, fun e => h (.inr (.inr (.inl e))), ?_⟩
  · rcases Int.lt_or_le 4611686018427387904 slot with h1 | h1
    · exact absurd (.inr (.inl h1)) h
    · exact h1
  · by_cases e : setWith cfg 0 = cfg
    · exact e
    · exact absurd (.inr (.inr (.inr e))) h

set_option maxHeartbeats 1000000 in
theorem popen_state {w : World} {F : Nat → Prop} {p : Value} {M : List PO} {last : Int} (h : Dsk w F p M last) (slot : Int) (v : ByteArray) (cfg : Int) (hbad : openBad slot cfg = false) (hst : slot ≤ last) :
    Calls Try.prog 11 #[p, .int .u64 slot, .string v, .int .u8 cfg] w fun e w' => e = .returned (.int .i64 13) ∧ w = w' := by
  obtain ⟨h0, h1, h2, h3⟩ := openBad_no hbad
  obtain ⟨b, m, n, D, rfl, hb, hm, hB, hO, hR⟩ := h
  have c1 : w.cell? ⟨b, 1, none⟩ = some (.int .u64 last) := hB.cell 1
  have h0' : (slot == 0) = false := beq_eq_false_iff_ne.2 h0
  have h1' : decide (4611686018427387904 < slot) = false := decide_eq_false (by omega)
  have h2' : (setLen cfg == 0) = false := beq_eq_false_iff_ne.2 h2
  have h3' : (setWith cfg 0 != cfg) = false := by simpa using h3
  have hst' : decide (slot ≤ last) = true := decide_eq_true hst
  clear hbad h0 h1 h2 h3 hst hB hO hR
  go_enter Try.func11, Try.ntmps11
  go_wp2_with fail
  refine (len_any _ _).mono ?_
  rintro e w' ⟨rfl, rfl⟩
  go_wp2_with fail
  refine (with_any _ _ _).mono ?_
  rintro e w' ⟨rfl, rfl⟩
  go_wp2_with fail
  go_ret
  exact ⟨rfl, rfl⟩

set_option maxHeartbeats 1000000 in
theorem popen_ok {w : World} {F : Nat → Prop} {p : Value} {M : List PO} {last : Int} (h : Dsk w F p M last) (slot : Int) (v : ByteArray) (cfg : Int) (hbad : openBad slot cfg = false) (hst : last < slot) (hs0 : 0 ≤ slot) (hl : M.length ≤ 100000) (hM : ∀ x ∈ M, x.slot ≤ last) :
    Calls Try.prog 11 #[p, .int .u64 slot, .string v, .int .u8 cfg] w fun e w' => e = .returned (.int .i64 0) ∧ Upd F w w' ∧ Dsk w' F p (M ++ [⟨slot, v, cfg, 0⟩]) slot := by
  obtain ⟨h0, h1, h2, h3⟩ := openBad_no hbad
  obtain ⟨b, m, n, D, rfl, hb, hm, hB, hO, hR⟩ := h
  have hbm := blk_ne_map hB hO
  have hO := owns_tight hO
  rw [hR.size] at hO
  have c0 : w.cell? ⟨b, 0, none⟩ = some (.map (some m)) := hB.cell 0
  have c1 : w.cell? ⟨b, 1, none⟩ = some (.int .u64 last) := hB.cell 1
  have h0' : (slot == 0) = false := beq_eq_false_iff_ne.2 h0
  have h1' : decide (4611686018427387904 < slot) = false := decide_eq_false (by omega)
  have h2' : (setLen cfg == 0) = false := beq_eq_false_iff_ne.2 h2
  have h3' : (setWith cfg 0 != cfg) = false := by simpa using h3
  have hst' : decide (slot ≤ last) = false := decide_eq_false (by omega)
  have hw : (Lit.int .u64 slot).wf = true := wf_u64_ hs0 (by omega)
  have HR := Lib.hid (reads_push hR ⟨slot, v, cfg, 0⟩ hw (fun x hx => by have := hM x hx; show x.slot ≠ slot; omega))
  have HW := Lib.hid hw
  have HB := Lib.hid hB
  have HBM := Lib.hid hbm
  have HF := Lib.hid (And.intro hb hm)
  clear hbad h0 h1 h2 h3 hst hB hR hM hw hbm hb hm
  go_enter Try.func11, Try.ntmps11
  go_wp2_with fail
  refine (len_any _ _).mono ?_
  rintro e w' ⟨rfl, rfl⟩
  go_wp2_with fail
  refine (with_any _ _ _).mono ?_
  rintro e w' ⟨rfl, rfl⟩
  go_wp2_with (at_mapUpdate; refine wpList_mapUpdate_in _ rfl _ _ _ 64 rfl 28 63 keyedU Try.underlying64 oR m M.length D rfl hO (by unfold maxLen; omega) _ _ (.int .u64 slot) rfl rfl (keyU HW.out) (.held ⟨slot, v, cfg, 0⟩) [] rfl ?_)
  intro w1 hO1 ht1
  have hu1 := turned_upd ht1
  have HB1 := Lib.hid (HB.out.upd hu1 HBM.out)
  have d1 : w1.cell? ⟨b, 1, none⟩ = some (.int .u64 last) := HB1.out.cell 1
  have d2 : w1.frozen? ⟨b, 1, none⟩ = false := HB1.out.frozen 1
  have HO1 := Lib.hid hO1
  have HU1 := Lib.hid hu1
  clear hO1 ht1 hu1 hO c0 c1
  go_wp2_with fail
  go_ret
  refine ⟨rfl, (HU1.out.mono (fun k _ e => by rw [e]; exact HF.out.2)).setCell (p := ⟨b, 1, none⟩) (.inl HF.out.1) _, b, m, _, _, rfl, HF.out.1, HF.out.2, HB1.out.set_ 1 _, HO1.out.setCell (fun e => HBM.out e.symm) _, HR.out⟩

theorem plast_nil (w : World) : Calls Try.prog 18 #[.pointer none] w fun e w' => e = .returned (.int .u64 0) ∧ w = w' := by
  go_enter Try.func18, Try.ntmps18
  go_wp2_with fail
  go_ret
  exact ⟨rfl, rfl⟩
theorem plast_any {w : World} {F : Nat → Prop} {p : Value} {M : List PO} {last : Int} (h : Dsk w F p M last) :
    Calls Try.prog 18 #[p] w fun e w' => e = .returned (.int .u64 last) ∧ w = w' := by
  obtain ⟨b, m, n, D, rfl, hb, hm, hB, hO, hR⟩ := h
  have c1 : w.cell? ⟨b, 1, none⟩ = some (.int .u64 last) := hB.cell 1
  clear hB hO hR
  go_enter Try.func18, Try.ntmps18
  go_wp2_with fail
  go_ret
  exact ⟨rfl, rfl⟩

theorem pclose_nil (slot : Int) (w : World) : Calls Try.prog 12 #[.pointer none, .int .u64 slot] w fun e w' => e = .returned (.tuple #[]) ∧ w = w' := by
  go_enter Try.func12, Try.ntmps12
  go_wp2_with fail
  go_end0
  exact ⟨rfl, rfl⟩
theorem pclose_any {w : World} {F : Nat → Prop} {p : Value} {M : List PO} {last : Int} (h : Dsk w F p M last) (hr : Rising M) (slot : Int) (hw : (Lit.int .u64 slot).wf = true) :
    Calls Try.prog 12 #[p, .int .u64 slot] w fun e w' => e = .returned (.tuple #[]) ∧ Upd F w w' ∧ Dsk w' F p (closeM M slot) last := by
  obtain ⟨b, m, n, D, rfl, hb, hm, hB, hO, hR⟩ := h
  have hbm := blk_ne_map hB hO
  have c0 : w.cell? ⟨b, 0, none⟩ = some (.map (some m)) := hB.cell 0
  have HR := Lib.hid (reads_close hR hr hw)
  have HW := Lib.hid hw
  have HB := Lib.hid hB
  have HBM := Lib.hid hbm
  have HF := Lib.hid (And.intro hb hm)
  clear hB hR hw hbm hb hm hr
  go_enter Try.func12, Try.ntmps12
  go_wp2_with (at_delete; refine wpList_delete_own _ rfl _ _ 64 28 rfl 63 keyedU Try.underlying64 oR m n D rfl hO _ (.int .u64 slot) rfl (keyU HW.out) ?_)
  intro w1 hO1 ht1
  have hu1 := turned_upd ht1
  go_wp2_with fail
  go_end0
  exact ⟨rfl, hu1.mono (fun k _ e => by rw [e]; exact HF.out.2), b, m, _, _, rfl, HF.out.1, HF.out.2, HB.out.upd hu1 HBM.out, hO1, HR.out⟩

theorem pdec_any (o : PO) (w : World) : Calls Try.prog 27 #[oVal o] w fun e w' => e = .returned (.bool (setMaj o.cfg o.who)) ∧ Upd (fun _ => False) w w' := by
  unfold oVal
  go_enter Try.func27, Try.ntmps27
  go_wp2_with fail
  refine (major_any _ _ _).mono ?_
  rintro e w' ⟨rfl, rfl⟩
  go_wp2_with fail
  go_ret
  exact ⟨rfl, (Upd.refl _ _).alloc _⟩

theorem pvoted_nil (n slot : Int) (w : World) : Calls Try.prog 14 #[.pointer none, .int .u8 n, .int .u64 slot] w fun e w' => e = .returned (.tuple #[.agg #[.int .u64 0, .string ByteArray.empty], .bool false]) ∧ Upd (fun _ => False) w w' := by
  go_enter Try.func14, Try.ntmps14
  go_wp2_with fail
  exact bodyPost_ret (v := .tuple #[.agg #[.int .u64 0, .string ByteArray.empty], .bool false]) (by simp [results, Try.results14, go_sem]; rfl) rfl ⟨rfl, (Upd.refl _ _).alloc _⟩

theorem reads_not {D : DataW PO} {M : List PO} (h : Reads D M) {slot : Int} (hw : (Lit.int .u64 slot).wf = true) (hn : M.any (fun o => o.slot == slot) = false) : Maps.has D (.int .u64 slot) = false := by rw [h.has _ hw, hn]

set_option maxHeartbeats 1000000 in
theorem pvoted_no {w : World} {F : Nat → Prop} {p : Value} {M : List PO} {last : Int} (h : Dsk w F p M last) (n slot : Int) (hw : (Lit.int .u64 slot).wf = true) (hn : M.any (fun o => o.slot == slot) = false) :
    Calls Try.prog 14 #[p, .int .u8 n, .int .u64 slot] w fun e w' => e = .returned (.tuple #[.agg #[.int .u64 0, .string ByteArray.empty], .bool false]) ∧ Upd (fun _ => False) w w' := by
  obtain ⟨b, m, k, D, rfl, hb, hm, hB, hO, hR⟩ := h
  have c0 : (w.alloc (.cells #[.int .u64 0, .string { data := #[] }] 41)).cell? ⟨b, 0, none⟩ = some (.map (some m)) := (hB.alloc _).cell 0
  have hno := reads_not hR hw hn
  have hat := fun z => atKey_of_not_has (z := z) hno
  have HW := Lib.hid hw
  have HA := Lib.hid hat
  have HO := Lib.hid (fun o => hO.alloc o)
  clear hR hw hn hB hat hO
  go_enter Try.func14, Try.ntmps14
  go_wp2_with (at_lookup; refine wpList_lookup_own_ok _ rfl _ _ 64 rfl 28 63 keyedU Try.underlying64 oR (zeroO _) (.held ⟨0, ByteArray.empty, 0, 0⟩) [] rfl m k D rfl (HO.out _) _ (.int .u64 slot) rfl (keyU HW.out) ?_; intro v ps hv; rw [HA.out] at hv; have hv := oR_inv hv; subst hv; unfold oVal)
  go_wp2_with fail
  exact bodyPost_ret (v := .tuple #[.agg #[.int .u64 0, .string ByteArray.empty], .bool false]) (by simp [results, Try.results14, go_sem]; rfl) rfl ⟨rfl, ((Upd.refl _ _).alloc _).alloc _⟩

section
variable {H : Type} {P : Program} (w : World)
theorem wp_mapUpdate_in {o : Oper} {a : Act} {K : Act → World → Prop} {Q : Exit → Act → World → Prop} (m x v : Operand) (t : TypeId) (hop : o.op = Op.mapUpdate t m x v)
    (k e : TypeId) (KK : Keyed P k) (ht : P.underlying t = some (.map k e)) (R : Value → Option (DataW H × List MemPlace)) (b n : Nat) (D : DataW H)
    (hm : a.eval m = .map (some b)) (hown : w.ownsMap P k R b n D) (hn : n < maxLen) (key val : Value) (kl : Lit) (hx : a.eval x = key) (hv : a.eval v = val) (hkey : keyOf P k key = some kl)
    (d : DataW H) (ps : List MemPlace) (hval : R val = some (d, ps))
    (hK : ∀ w', w'.ownsMap P k R b (n + 1) (D.put kl d) → w.mapTurned w' b → K (a.put o.dst undef) w') : o.wp P a w K Q := by
  obtain ⟨w', hrun, r1, r2⟩ := hown.store KK ht hn hkey hval
  unfold Oper.wp
  simp [execOp, hop, hm, hx, hv, hrun, Result.andThen]
  exact hK w' r1 r2
theorem step_mapUpdate_in {ops : Array Oper} {o : Oper} {a : Act} {K : Act → World → Prop} {Q : Exit → Act → World → Prop} {E : Prop} (hgd : o.guard = none) (m x v : Operand) (t : TypeId) (hop : o.op = Op.mapUpdate t m x v)
    (k e : TypeId) (KK : Keyed P k) (ht : P.underlying t = some (.map k e)) (R : Value → Option (DataW H × List MemPlace)) (b n : Nat) (D : DataW H)
    (hm : a.eval m = .map (some b)) (hown : w.ownsMap P k R b n D) (hn : n < maxLen) (key val : Value) (kl : Lit) (hx : a.eval x = key) (hv : a.eval v = val) (hkey : keyOf P k key = some kl)
    (d : DataW H) (ps : List MemPlace) (hval : R val = some (d, ps))
    (hK : ∀ w', w'.ownsMap P k R b (n + 1) (D.put kl d) → w.mapTurned w' b → K (a.put o.dst undef) w') :
    if Region.wanted o (yielded ops a.tmps) = true then Oper.wp P o a w K Q else E := by
  have hw : Region.wanted o (yielded ops a.tmps) = true := by simp [Region.wanted, hgd]
  rw [if_pos hw]
  exact wp_mapUpdate_in w m x v t hop k e KK ht R b n D hm hown hn key val kl hx hv hkey d ps hval hK
end

/-- A vote that is taken in. -/
def votedO (o : PO) (n : Int) : PO := { o with who := setWith o.who (setBoth (setOf1 n) o.cfg) }

end Go.Proofs.Ytbnmildjamjjmaa
