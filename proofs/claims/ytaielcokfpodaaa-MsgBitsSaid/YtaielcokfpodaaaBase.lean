/-
  Memory words of this part's proofs: what a step of the program may have changed ('Upd'), a slice that reads as a list ('Sl'), a block that is known whole ('Blk'), an append whose source is any readable slice. No program in sight. Conditions: none.
-/
import Derived.WalkKit
import Derived.WalkSpells
import Derived.WalkLawsBesides
import Derived.Lib.Hide
import Derived.Deep.Draws
import Derived.Maps.AppendAt
import Derived.Deep.AppendLies
import Derived.ChangeSame
namespace Go.Proofs.Ytaielcokfpodaaa
open Go.RowKit

/-- Of the blocks that were there only those of F may have changed. -/
structure Upd (F : Nat → Prop) (w w' : World) : Prop where
  os : w'.os = w.os
  tape : w'.tape = w.tape
  output : w'.output = w.output
  size : w.heap.size ≤ w'.heap.size
  block : ∀ k, k < w.heap.size → ¬ F k → w'.heap[k]? = w.heap[k]?

theorem Upd.refl (F : Nat → Prop) (w : World) : Upd F w w := ⟨rfl, rfl, rfl, Nat.le_refl _, fun _ _ _ => rfl⟩
theorem Upd.trans {F G : Nat → Prop} {a b c : World} (h : Upd F a b) (k : Upd G b c) (hs : ∀ i, i < a.heap.size → G i → F i) : Upd F a c :=
  ⟨k.os.trans h.os, k.tape.trans h.tape, k.output.trans h.output, Nat.le_trans h.size k.size, fun i hi hf => (k.block i (Nat.lt_of_lt_of_le hi h.size) (fun hg => hf (hs i hi hg))).trans (h.block i hi hf)⟩
theorem Upd.mono {F G : Nat → Prop} {w w' : World} (h : Upd F w w') (hs : ∀ i, i < w.heap.size → F i → G i) : Upd G w w' :=
  ⟨h.os, h.tape, h.output, h.size, fun i hi hg => h.block i hi (fun hf => hg (hs i hi hf))⟩
theorem Upd.drew {F : Nat → Prop} {a w : World} (h : Upd F a w) : Upd F a w.drew := ⟨h.os, h.tape, h.output, h.size, h.block⟩
theorem Upd.drewN {F : Nat → Prop} {a w : World} (h : Upd F a w) (n : Nat) : Upd F a (w.drewN n) := ⟨h.os, h.tape, h.output, h.size, h.block⟩
theorem Upd.alloc {F : Nat → Prop} {a w : World} (h : Upd F a w) (o : Obj) : Upd F a (w.alloc o) :=
  ⟨h.os, h.tape, h.output, Nat.le_trans h.size (by simp), fun i hi hf => (Below.heap_alloc w o i (Nat.lt_of_lt_of_le hi h.size)).trans (h.block i hi hf)⟩
theorem Upd.setCell {F : Nat → Prop} {a w : World} (h : Upd F a w) {p : Addr} (hp : F p.block ∨ a.heap.size ≤ p.block) (u : Value) : Upd F a (w.setCell p u) :=
  ⟨h.os, h.tape, h.output, by simpa [World.setCell] using h.size, fun i hi hf => (Below.heap_setCell w p u i (by
    rintro rfl
    rcases hp with hp | hp
    · exact hf hp
    · omega)).trans (h.block i hi hf)⟩
theorem Upd.grown {F : Nat → Prop} {a w w' : World} {row : Option Nat} (h : Upd F a w) (hg : w.grownBy w' row) (hr : ∀ k, row = some k → F k ∨ a.heap.size ≤ k) : Upd F a w' :=
  ⟨hg.os.trans h.os, hg.tape.trans h.tape, hg.output.trans h.output, Nat.le_trans h.size hg.size, fun i hi hf => (hg.block i (Nat.lt_of_lt_of_le hi h.size) (fun e => by
    rcases hr i e.symm with hp | hp
    · exact hf hp
    · omega)).trans (h.block i hi hf)⟩
theorem Upd.below {w w' : World} (h : Upd (fun _ => False) w w') : Below w.heap.size w w' := ⟨h.os, h.tape, h.output, h.size, fun k hk => h.block k hk id⟩
theorem Upd.of_below {F : Nat → Prop} {w w' : World} (h : Below w.heap.size w w') : Upd F w w' := ⟨h.os, h.tape, h.output, h.size, fun k hk _ => h.block k hk⟩
theorem Upd.cell {F : Nat → Prop} {w w' : World} (h : Upd F w w') {p : Addr} (hl : p.block < w.heap.size) (hf : ¬ F p.block) : w'.cell? p = w.cell? p := World.cell?_of_block (w := w) (h.block p.block hl hf)
theorem Upd.frozen {F : Nat → Prop} {w w' : World} (h : Upd F w w') {p : Addr} (hl : p.block < w.heap.size) (hf : ¬ F p.block) : w'.frozen? p = w.frozen? p := World.frozen?_of_block (w := w) (h.block p.block hl hf)

/-- Two footprints stay apart when one of them grows by new blocks alone. -/
theorem apart_grow {F F' G : Nat → Prop} {w : World} (h : ∀ k, F k → ¬ G k) (hG : ∀ k, G k → k < w.heap.size) (hF : ∀ k, F' k → F k ∨ w.heap.size ≤ k) : ∀ k, F' k → ¬ G k := fun k hk hg => by
  rcases hF k hk with h1 | h1
  · exact h k h1 hg
  · have := hG k hg; omega

/-- Block g is just these cells, none frozen. -/
def Blk (w : World) (g : Nat) (t : TypeId) (cs : Array Value) : Prop := w.heap[g]? = some (.cells cs t (0, 0))
section
variable {w w' : World} {g : Nat} {t : TypeId} {cs : Array Value}
theorem Blk.lt (h : Blk w g t cs) : g < w.heap.size := by
  rcases Nat.lt_or_ge g w.heap.size with hlt | hge
  · exact hlt
  · unfold Blk at h; rw [Array.getElem?_eq_none hge] at h; cases h
theorem Blk.cell (h : Blk w g t cs) (i : Nat) : w.cell? ⟨g, i, none⟩ = cs[i]? := cell_of_row w g i cs t (0, 0) h
theorem Blk.frozen (h : Blk w g t cs) (i : Nat) : w.frozen? ⟨g, i, none⟩ = false := by
  unfold Blk at h
  simp [World.frozen?, h]
theorem Blk.new (w : World) (t : TypeId) (cs : Array Value) : Blk (w.alloc (.cells cs t)) w.heap.size t cs := heap_alloc_new w _
theorem Blk.newAt (w : World) (t : TypeId) (cs : Array Value) (hg : g = w.heap.size) : Blk (w.alloc (.cells cs t)) g t cs := by rw [hg]; exact heap_alloc_new w _
theorem Blk.alloc (h : Blk w g t cs) (o : Obj) : Blk (w.alloc o) g t cs := (Below.heap_alloc w o g h.lt).trans h
theorem Blk.set_ (h : Blk w g t cs) (i : Nat) (u : Value) : Blk (w.setCell ⟨g, i, none⟩ u) g t (cs.setIfInBounds i u) := by
  unfold Blk at h ⊢
  simp [World.setCell, Array.getElem?_modify, h]
theorem Blk.far (h : Blk w g t cs) {p : Addr} (hp : g ≠ p.block) (u : Value) : Blk (w.setCell p u) g t cs := (Below.heap_setCell w p u g hp).trans h
theorem Blk.upd {F : Nat → Prop} (h : Blk w g t cs) (hb : Upd F w w') (hg : ¬ F g) : Blk w' g t cs := (hb.block g h.lt hg).trans h
theorem Blk.grown {row : Option Nat} (h : Blk w g t cs) (hb : w.grownBy w' row) (hg : some g ≠ row) : Blk w' g t cs := (hb.block g h.lt hg).trans h
theorem Blk.below {B : Nat} (h : Blk w g t cs) (hb : Below B w w') (hg : g < B) : Blk w' g t cs := (hb.block g hg).trans h
theorem Blk.ne_ {g' : Nat} {t' : TypeId} {cs' : Array Value} (h : Blk w g t cs) (h' : Blk w g' t' cs') (hne : t ≠ t') : g ≠ g' := by
  rintro rfl
  unfold Blk at h h'
  rw [h] at h'
  injection h' with h'
  injection h' with _ ht
  exact hne ht
theorem own_blk_ne {base : Nat} {e : TypeId} {size : Nat} {v : Value} {n : Nat} {xs : List Value} (h : w.ownsRow base e size v n xs) (hg : Blk w g t cs) (hne : e ≠ t) : v.ownBlock ≠ some g := by
  rcases h.2 with ⟨rfl, _⟩ | ⟨g', cap, cur, rfl, _, hh, _⟩
  · simp [Value.ownBlock]
  · intro he
    have : g' = g := by simpa [Value.ownBlock] using he
    subst this
    exact Blk.ne_ (t := e) hh hg hne rfl
end

theorem own_upd {w w' : World} {base : Nat} {e : TypeId} {size : Nat} {v : Value} {n : Nat} {xs : List Value} {F : Nat → Prop} (h : w.ownsRow base e size v n xs) (hu : Upd F w w') (hne : ∀ g, v.ownBlock = some g → ¬ F g) : w'.ownsRow base e size v n xs := by
  refine ⟨h.1, ?_⟩
  rcases h.2 with hn | ⟨g, cap, cur, rfl, hb, hgg, rest⟩
  · exact .inl hn
  · exact .inr ⟨g, cap, cur, rfl, hb, (hu.block g (Array.getElem?_eq_some_iff.1 hgg).1 (hne g (by simp [Value.ownBlock]))).trans hgg, rest⟩

/-- A slice of n elements, 'size' cells each, that reads as the cells xs, which lie in a block of F. -/
def Sl (w : World) (F : Nat → Prop) (size : Nat) (v : Value) (n : Nat) (xs : List Value) : Prop :=
  xs.length = n * size ∧ ∃ A c, v = .slice A n c ∧ n ≤ c ∧ c ≤ maxLen ∧ (A = none → c = 0) ∧
    (0 < n → ∃ b o, A = some ⟨b, o, none⟩ ∧ F b ∧ b < w.heap.size ∧ ∀ j u, xs[j]? = some u → w.cell? ⟨b, o + j, none⟩ = some u)
section
variable {w w' : World} {F G : Nat → Prop} {size n : Nat} {v : Value} {xs : List Value}
theorem Sl.nil (w : World) (F : Nat → Prop) (size : Nat) : Sl w F size (.slice none 0 0) 0 [] := ⟨by simp, none, 0, rfl, Nat.le_refl _, by simp [maxLen], fun _ => rfl, fun h => absurd h (by omega)⟩
theorem Sl.keep (h : Sl w F size v n xs) (hs : w.heap.size ≤ w'.heap.size) (hk : ∀ k, k < w.heap.size → F k → w'.heap[k]? = w.heap[k]?) : Sl w' F size v n xs := by
  obtain ⟨hl, A, c, rfl, hc, hm, hA, hx⟩ := h
  refine ⟨hl, A, c, rfl, hc, hm, hA, fun hn => ?_⟩
  obtain ⟨b, o, rfl, hF, hb, hcell⟩ := hx hn
  exact ⟨b, o, rfl, hF, by omega, fun j u hu => (World.cell?_of_block (w := w) (a := ⟨b, o + j, none⟩) (hk b hb hF)).trans (hcell j u hu)⟩
theorem Sl.upd (h : Sl w F size v n xs) (hu : Upd G w w') (hd : ∀ k, F k → ¬ G k) : Sl w' F size v n xs := h.keep hu.size fun k hk hf => hu.block k hk (hd k hf)
theorem Sl.drewN (h : Sl w F size v n xs) (k : Nat) : Sl (w.drewN k) F size v n xs := h
theorem Sl.alloc (h : Sl w F size v n xs) (o : Obj) : Sl (w.alloc o) F size v n xs := h.keep (by simp) fun k hk _ => Below.heap_alloc w o k hk
theorem Sl.below {B : Nat} (h : Sl w F size v n xs) (hb : Below B w w') (hd : ∀ k, F k → k < B) : Sl w' F size v n xs := h.keep hb.size fun k _ hf => hb.block k (hd k hf)
theorem Sl.more (h : Sl w F size v n xs) (hd : ∀ k, F k → G k) : Sl w G size v n xs := by
  obtain ⟨hl, A, c, rfl, hc, hm, hA, hx⟩ := h
  refine ⟨hl, A, c, rfl, hc, hm, hA, fun hn => ?_⟩
  obtain ⟨b, o, rfl, hF, hb, hcell⟩ := hx hn
  exact ⟨b, o, rfl, hd _ hF, hb, hcell⟩
theorem Sl.own {base : Nat} {e : TypeId} (h : w.ownsRow base e size v n xs) : Sl w (fun k => v.ownBlock = some k) size v n xs := by
  refine ⟨h.1, ?_⟩
  rcases h.2 with ⟨rfl, rfl⟩ | ⟨g, cap, cur, rfl, hb, hgg, hnc, hcm, hcs, htake⟩
  · exact ⟨none, 0, rfl, Nat.le_refl _, by simp [maxLen], fun _ => rfl, fun h => absurd h (by omega)⟩
  · refine ⟨_, cap, rfl, hnc, hcm, (fun h => by cases h), fun _ => ⟨g, 0, rfl, by simp [Value.ownBlock], (Array.getElem?_eq_some_iff.1 hgg).1, fun j u hu => ?_⟩⟩
    have hlt : j < n * size := by
      have := (List.getElem?_eq_some_iff.1 hu).1
      rw [h.1] at this
      exact this
    rw [Nat.zero_add, h.cellAt j hlt]
    exact hu
theorem Sl.one (w : World) (x : Value) (t : TypeId) : Sl (w.alloc (.cells #[x] t)) (fun k => k = w.heap.size) 1 (.slice (some ⟨w.heap.size, 0, none⟩) 1 1) 1 [x] := by
  refine ⟨rfl, _, 1, rfl, Nat.le_refl _, by simp [maxLen], (fun h => by cases h), fun _ => ⟨_, 0, rfl, rfl, by simp, fun j u hu => ?_⟩⟩
  match j, hu with
  | 0, hu =>
    simp at hu
    subst hu
    simp
theorem Sl.at_ (h : Sl w F 1 v n xs) {k : Nat} (hk : k < n) : ∃ b o c, v = .slice (some ⟨b, o, none⟩) n c ∧ F b ∧ b < w.heap.size ∧ w.cell? ⟨b, o + k, none⟩ = xs[k]? := by
  obtain ⟨hl, A, c, rfl, hc, hm, hA, hx⟩ := h
  obtain ⟨b, o, rfl, hF, hb, hcell⟩ := hx (by omega)
  have hkx : k < xs.length := by omega
  exact ⟨b, o, c, rfl, hF, hb, by rw [List.getElem?_eq_getElem hkx]; exact hcell k _ (List.getElem?_eq_getElem hkx)⟩
theorem Sl.shape (h : Sl w F size v n xs) : ∃ A c, v = .slice A n c ∧ n ≤ c ∧ c ≤ maxLen := by
  obtain ⟨_, A, c, rfl, hc, hm, _⟩ := h
  exact ⟨A, c, rfl, hc, hm⟩
/-- A cut 's[k:]' of a slice of one-cell elements. -/
theorem Sl.cut {A : Option Addr} {c k : Nat} (h : Sl w F 1 (.slice A n c) n xs) (hk : k ≤ n) :
    Sl w F 1 (.slice (if c = k then A else A.map (·.add k)) (n - k) (c - k)) (n - k) (xs.drop k) := by
  obtain ⟨hl, A', c', e, hc, hm, hA, hx⟩ := h
  simp only [Value.slice.injEq, true_and] at e
  obtain ⟨rfl, rfl⟩ := e
  refine ⟨by rw [List.length_drop, hl]; omega, _, _, rfl, by omega, by omega, fun h => ?_, fun hn => ?_⟩
  · by_cases hck : c = k
    · omega
    · rw [if_neg hck] at h
      cases A with
      | none => have := hA rfl; omega
      | some a => simp at h
  · obtain ⟨b, o, rfl, hF, hb, hcell⟩ := hx (by omega)
    refine ⟨b, o + k, ?_, hF, hb, fun j u hu => ?_⟩
    · rw [if_neg (by omega)]
      simp only [Option.map_some, Addr.add]
      split <;> simp_all
    · rw [Nat.add_assoc]
      exact hcell _ u (by rw [← hu, List.getElem?_drop])
end

section
variable {P : Program} (w : World)
/-- append onto a row of the call's own; the source any readable slice. -/
theorem run_append_sl (t ty e : TypeId) (i : TypeInfo) (z : Value) (size bytes : Nat) (ht : P.underlying t = some (.slice e)) (hi : P.info? e = some i) (hz : i.zero = some z)
    (hsize : i.size = size) (hby : i.bytes = bytes) (hzs : z.cells.size = size) (hsz : 0 < size)
    (v : Value) (n : Nat) (xs : List Value) (hown : w.ownsRow 0 e size v n xs)
    (F : Nat → Prop) (u : Value) (m : Nat) (ys : List Value) (hr : Sl w F size u m ys) (h1 : ∀ u ∈ ys, u.oneCell' = true)
    (h63 : n + m ≤ maxLen) (hbytes : (n + m) * bytes ≤ 140737488355328) :
    ∃ v' w', (Builtin.append_ #[t, t] ty #[v, u]).run P w = .ok v' w' ∧ w'.ownsRow 0 e size v' (n + m) (xs ++ ys) ∧ w.grownBy w' v.ownBlock ∧
      (v'.ownBlock = v.ownBlock ∨ v'.ownBlock = some w.heap.size) := by
  obtain ⟨hl, A, c, rfl, hc, hm, hA, hx⟩ := hr
  rcases A with _ | ad
  · have hc0 := hA rfl
    have hm0 : m = 0 := by omega
    subst hm0
    have hn : ys = [] := List.eq_nil_of_length_eq_zero (by simpa using hl)
    subst hn
    subst hc0
    exact ⟨v, w, run_append_owned_none (P := P) w 0 t ty e i size ht hi v n xs hown, by simpa using hown, World.grownBy.refl w _, .inl rfl⟩
  · have hcells : ∀ j u, ys[j]? = some u → w.cell? (ad.add j) = some u := by
      intro j u hu
      have hm0 : 0 < m := by
        rcases Nat.eq_zero_or_pos m with h0 | h0
        · subst h0
          have hn : ys = [] := List.eq_nil_of_length_eq_zero (by simpa using hl)
          subst hn
          simp at hu
        · exact h0
      obtain ⟨b, o, h, _, _, hcell⟩ := hx hm0
      injection h with h
      subst h
      have := hcell j u hu
      have ha : (⟨b, o, none⟩ : Addr).add j = ⟨b, o + j, none⟩ := by unfold Addr.add; split <;> simp_all
      rw [ha]; exact this
    obtain ⟨v', w', hrun, h2, h3, _, h5⟩ := run_append_own_at (P := P) w 0 t ty e i z size bytes ht hi hz hsize hby hzs hsz v n xs hown ad m c ys hl hcells h1 h63 hbytes (Nat.zero_le _)
    exact ⟨v', w', hrun, h2, h3, h5⟩

theorem wp_append_sl {o : Oper} {a : Act} {K : Act → World → Prop} {Q : Exit → Act → World → Prop} (s x : Operand) (t : TypeId)
    (ho : o.op = .call { callee := .builtin .append, args := #[s, x], argTypes := #[t, t] })
    (e : TypeId) (i : TypeInfo) (z : Value) (size bytes : Nat) (ht : P.underlying t = some (.slice e)) (hi : P.info? e = some i) (hz : i.zero = some z)
    (hsize : i.size = size) (hby : i.bytes = bytes) (hzs : z.cells.size = size) (hsz : 0 < size)
    (v : Value) (n : Nat) (xs : List Value) (hs : a.eval s = v) (hown : w.ownsRow 0 e size v n xs)
    (F : Nat → Prop) (u : Value) (m : Nat) (ys : List Value) (hx : a.eval x = u) (hr : Sl w F size u m ys) (h1 : ∀ u ∈ ys, u.oneCell' = true)
    (h63 : n + m ≤ maxLen) (hbytes : (n + m) * bytes ≤ 140737488355328)
    (h : ∀ v' w', w'.ownsRow 0 e size v' (n + m) (xs ++ ys) → w.grownBy w' v.ownBlock → (v'.ownBlock = v.ownBlock ∨ v'.ownBlock = some w.heap.size) → K (a.put o.dst v') w') : o.wp P a w K Q := by
  obtain ⟨v', w', hrun, h2, h3, h4⟩ := run_append_sl (P := P) w t o.type e i z size bytes ht hi hz hsize hby hzs hsz v n xs hown F u m ys hr h1 h63 hbytes
  unfold Oper.wp execOp
  simp only [ho, resolve, invoke, builtin, Sem.run_bind, Sem.run_pure, Result.andThen_ok, List.map_toArray, List.map_cons, List.map_nil, hs, hx, hrun]
  exact h v' w' h2 h3 h4

theorem wpList_append_sl {ops : Array Oper} {rest : List Oper} {o : Oper} {a : Act} {Q : Exit → Act → World → Prop} (hgd : o.guard = none) (s x : Operand) (t : TypeId)
    (ho : o.op = .call { callee := .builtin .append, args := #[s, x], argTypes := #[t, t] })
    (e : TypeId) (i : TypeInfo) (z : Value) (size bytes : Nat) (ht : P.underlying t = some (.slice e)) (hi : P.info? e = some i) (hz : i.zero = some z)
    (hsize : i.size = size) (hby : i.bytes = bytes) (hzs : z.cells.size = size) (hsz : 0 < size)
    (v : Value) (n : Nat) (xs : List Value) (hs : a.eval s = v) (hown : w.ownsRow 0 e size v n xs)
    (F : Nat → Prop) (u : Value) (m : Nat) (ys : List Value) (hx : a.eval x = u) (hr : Sl w F size u m ys) (h1 : ∀ u ∈ ys, u.oneCell' = true)
    (h63 : n + m ≤ maxLen) (hbytes : (n + m) * bytes ≤ 140737488355328)
    (h : ∀ v' w', w'.ownsRow 0 e size v' (n + m) (xs ++ ys) → w.grownBy w' v.ownBlock → (v'.ownBlock = v.ownBlock ∨ v'.ownBlock = some w.heap.size) → wpList P ops Q rest (a.put o.dst v') w') : wpList P ops Q (o :: rest) a w :=
  wpList_plain hgd fun _ hK => wp_append_sl w s x t ho e i z size bytes ht hi hz hsize hby hzs hsz v n xs hs hown F u m ys hx hr h1 h63 hbytes fun v' w' h2 h3 h4 => hK _ _ (h v' w' h2 h3 h4)

theorem step_append_sl {ops : Array Oper} {o : Oper} {a : Act} {K : Act → World → Prop} {Q : Exit → Act → World → Prop} {E : Prop} (hgd : o.guard = none) (s x : Operand) (t : TypeId)
    (ho : o.op = .call { callee := .builtin .append, args := #[s, x], argTypes := #[t, t] })
    (e : TypeId) (i : TypeInfo) (z : Value) (size bytes : Nat) (ht : P.underlying t = some (.slice e)) (hi : P.info? e = some i) (hz : i.zero = some z)
    (hsize : i.size = size) (hby : i.bytes = bytes) (hzs : z.cells.size = size) (hsz : 0 < size)
    (v : Value) (n : Nat) (xs : List Value) (hs : a.eval s = v) (hown : w.ownsRow 0 e size v n xs)
    (F : Nat → Prop) (u : Value) (m : Nat) (ys : List Value) (hx : a.eval x = u) (hr : Sl w F size u m ys) (h1 : ∀ u ∈ ys, u.oneCell' = true)
    (h63 : n + m ≤ maxLen) (hbytes : (n + m) * bytes ≤ 140737488355328)
    (h : ∀ v' w', w'.ownsRow 0 e size v' (n + m) (xs ++ ys) → w.grownBy w' v.ownBlock → (v'.ownBlock = v.ownBlock ∨ v'.ownBlock = some w.heap.size) → K (a.put o.dst v') w') :
    if Region.wanted o (yielded ops a.tmps) = true then Oper.wp P o a w K Q else E := by
  have hw : Region.wanted o (yielded ops a.tmps) = true := by simp [Region.wanted, hgd]
  rw [if_pos hw]
  exact wp_append_sl w s x t ho e i z size bytes ht hi hz hsize hby hzs hsz v n xs hs hown F u m ys hx hr h1 h63 hbytes h
end

/-- A string's bytes as numbers. -/
def nums (s : ByteArray) : List Int := s.data.toList.map fun b => (b.toNat : Int)
theorem nums_length (s : ByteArray) : (nums s).length = s.size := by
  show (s.data.toList.map _).length = s.data.size
  rw [List.length_map, Array.length_toList]
theorem nums_bd (s : ByteArray) : ∀ x ∈ nums s, 0 ≤ x ∧ x ≤ 255 := by
  intro x hx
  simp only [nums, List.mem_map] at hx
  obtain ⟨b, _, rfl⟩ := hx
  have := b.toNat_lt
  omega

section
variable {P : Program}
/-- 'string(b)' of any readable slice of bytes. -/
theorem run_string_of_sl {w : World} {F : Nat → Prop} {v : Value} {n : Nat} {xs : List Int} (src dst e : TypeId) (hs : P.underlying src = some (.slice e)) (he : P.underlying e = some (.int .u8)) (hd : P.underlying dst = some .string)
    (h : Sl w F 1 v n (xs.map (Value.int .u8))) : (convert src dst v).run P w = .ok (.string (strOfNums xs)) w := by
  obtain ⟨hl, A, c, rfl, hc, hm, hA, hx⟩ := h
  have hxl : xs.length = n := by simpa using hl
  rcases Nat.eq_zero_or_pos n with h0 | h0
  · subst h0
    have hn : xs = [] := List.eq_nil_of_length_eq_zero hxl
    subst hn
    cases A with
    | none => exact run_convert_bytes_nil w src e hs he 0 c dst hd
    | some a =>
      rw [run_convert_bytes_string w src dst e _ 0 c hs he hd]
      have := run_bytesToString (P := P) w a 0 c [] (by simp [loadCells, loadCellsFrom])
      rw [this]
      rfl
  · obtain ⟨b, o, rfl, _, _, hcell⟩ := hx h0
    refine run_convert_bytes_arg w src e hs he b o n c xs hxl (fun i hi => hcell i _ ?_) dst hd
    rw [List.getElem?_map]
    have : i < xs.length := by omega
    simp [List.getElem?_eq_getElem this]

/-- '[]byte(s)': a new row of the string's bytes. -/
theorem run_bytes_sl (w : World) (src dst e : TypeId) (s : ByteArray) (hs : P.underlying src = some .string) (hd : P.underlying dst = some (.slice e)) (he : P.underlying e = some (.int .u8)) (hl : s.size ≤ 1000000) :
    ∃ v w', (convert src dst (.string s)).run P w = .ok v w' ∧ Upd (fun _ => False) w w' ∧ Sl w' (fun k => k = w.heap.size) 1 v s.size ((nums s).map (Value.int .u8)) := by
  have hr := run_bytes_of_string (P := P) w src dst e s hs hd he
  have hge := grownCap_ge w s.size 0 e
  have hcm := grownCap_le_maxLen w s.size 0 e (by simp only [maxLen]; omega)
  generalize grownCap w s.size 0 e = c at *
  refine ⟨_, _, hr, (Upd.refl _ _).drew.alloc _, by simp [nums_length], _, c, rfl, hge, hcm, (fun h => by cases h), fun _ => ⟨w.heap.size, 0, rfl, rfl, by simp, fun j u hu => ?_⟩⟩
  have hcell : (w.drew.alloc (.cells (bytesRow s c) e ((bytesRow s c).size, (bytesRow s c).size + 1))).heap[w.heap.size]? = some (.cells (bytesRow s c) e ((bytesRow s c).size, (bytesRow s c).size + 1)) := heap_alloc_new w.drew _
  rw [Nat.zero_add, cell_of_row _ _ _ _ _ _ hcell]
  have hj : j < (nums s).length := by simpa using (List.getElem?_eq_some_iff.1 hu).1
  rw [nums_length] at hj
  unfold bytesRow
  rw [Array.getElem?_append_left (by rw [Array.size_map]; exact hj)]
  rw [List.getElem?_map] at hu
  simp only [nums, List.getElem?_map, Option.map_map] at hu
  rw [Array.getElem?_map, ← hu]
  simp only [Array.getElem?_toList]
  rfl
end

/-- A slice of integers that came in, as the frame of a row's proof opens it. -/
def IsRow (k : IntKind) (w : World) (a : Option Addr) (len cap : Nat) (zs : List Int) : Prop :=
  (a = none ∧ len = 0 ∧ cap = 0 ∧ zs = []) ∨
  ∃ x, a = some x ∧ len ≤ cap ∧ cap ≤ maxLen ∧ zs.length = cap ∧ (∀ i, i < zs.length → w.cell? (x.add i) = some (.int k (zs.getD i 0))) ∧ ∀ n ∈ zs, (Lit.int k n).wf = true
theorem IsRow.sl {k : IntKind} {w : World} {a : Option Addr} {len cap : Nat} {zs : List Int} (h : IsRow k w a len cap zs) :
    Sl w (fun g => g < w.heap.size) 1 (.slice a len cap) len ((zs.take len).map (Value.int k)) ∧ (zs.take len).length = len ∧ ∀ n ∈ zs.take len, (Lit.int k n).wf = true := by
  rcases h with ⟨rfl, rfl, rfl, rfl⟩ | ⟨x, rfl, hl, hm, hz, hcell, hw⟩
  · exact ⟨Sl.nil _ _ _, rfl, by simp⟩
  · have hlen : (zs.take len).length = len := by rw [List.length_take]; omega
    refine ⟨⟨by simpa using hlen, some x, cap, rfl, hl, hm, (fun h => by cases h), fun hn => ?_⟩, hlen, fun n hn => hw n (List.mem_of_mem_take hn)⟩
    obtain ⟨b, o, sp⟩ := x
    have h0 := hcell 0 (by omega)
    have hsp : sp = none := by
      have := World.cell?_spot h0
      simpa [Addr.add] using this
    subst hsp
    refine ⟨b, o, rfl, ?_, ?_, fun j u hu => ?_⟩
    · have := World.block_lt_of_cell? w _ h0
      simpa [Addr.add] using this
    · have := World.block_lt_of_cell? w _ h0
      simpa [Addr.add] using this
    · rw [List.getElem?_map] at hu
      have hj : j < len := by
        rcases Nat.lt_or_ge j len with h | h
        · exact h
        · rw [List.getElem?_eq_none (by omega)] at hu; simp at hu
      have hc := hcell j (by omega)
      have ha : (⟨b, o, none⟩ : Addr).add j = ⟨b, o + j, none⟩ := by unfold Addr.add; split <;> simp_all
      rw [ha] at hc
      rw [hc]
      rw [List.getElem?_take, if_pos hj, List.getElem?_eq_getElem (by omega)] at hu
      simp at hu
      rw [← hu]
      simp [List.getD, List.getElem?_eq_getElem (show j < zs.length by omega)]
theorem wf_u8 {n : Int} (h : (Lit.int .u8 n).wf = true) : 0 ≤ n ∧ n ≤ 255 := by
  simp [Lit.wf, IntKind.min, IntKind.max, IntKind.signed, IntKind.bits] at h; omega

theorem hat_new {v : Value} {n : Nat} (h : v.ownBlock = Value.ownBlock (.slice none 0 0) ∨ v.ownBlock = some n) : ∀ k, v.ownBlock = some k → k = n := by
  intro k hk
  rcases h with h | h
  · rw [h] at hk; simp [Value.ownBlock] at hk
  · rw [h] at hk; exact (Option.some.inj hk).symm
theorem hat_two {v u : Value} {n m : Nat} (h : v.ownBlock = u.ownBlock ∨ v.ownBlock = some n) (hu : ∀ k, u.ownBlock = some k → k = m) : ∀ k, v.ownBlock = some k → k = n ∨ k = m := by
  intro k hk
  rcases h with h | h
  · rw [h] at hk; exact .inr (hu k hk)
  · rw [h] at hk; exact .inl (Option.some.inj hk).symm
theorem no_own_nil : ∀ k, Value.ownBlock (.slice none 0 0) = some k → False := fun k hk => by simp [Value.ownBlock] at hk

theorem ret_int {k : IntKind} {a b : Int} (h : a = b) : Ending.returned (.int k a) = .returned (.int k b) := by rw [h]
theorem ret_bool {a b : Bool} (h : a = b) : Ending.returned (.bool a) = .returned (.bool b) := by rw [h]
theorem ones_one (k : IntKind) (zs : List Int) : ∀ u ∈ zs.map (Value.int k), u.oneCell' = true := ints_oneCell k zs

end Go.Proofs.Ytaielcokfpodaaa
