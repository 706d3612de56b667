/-
  Layer 18, messages: the parts' functions, one contract for each family. Conditions: bytes; lists of at most 10^6.
-/
import Derived.Test.YtaielcokfpodaaaMsgJ
namespace Go.Proofs.Ytaielcokfpodaaa
open Go.RowKit Go.Maps

theorem b255 : (0 : Int) ≤ 0 ∧ (0 : Int) ≤ 255 := by decide
theorem b64 : (0 : Int) ≤ 0 ∧ (0 : Int) < 18446744073709551616 := by decide
theorem wf_ms0 (k : Int) (h0 : 0 ≤ k) (h1 : k ≤ 255) : WfM (ms0 k) :=
  ⟨⟨h0, h1⟩, b64, b255, b64, b64, b255, ⟨Byt.nil, Nat.zero_le 65536⟩, ⟨Nat.zero_le 1000000, fun _ h => by cases h⟩, ⟨Nat.zero_le 1000000, fun _ h => by cases h⟩, wfC0, b255, Byt.nil⟩
theorem wf_move {m tt : Ms} (h : WfM m) (ht : WfM tt) (p : Pt) : WfM (ptMove m tt p) := by
  cases p
  case whole => exact ⟨ht.kind, ht.bn, ht.br, ht.base, ht.slot, ht.node, ht.val, ht.votes, ht.items, h.cmd, ht.code, ht.text⟩
  case name => exact ⟨ht.kind, ht.bn, ht.br, ht.base, ht.slot, ht.node, ht.val, ht.votes, ht.items, ⟨h.cmd.client, h.cmd.seq, b255, Byt.nil, Byt.nil, Byt.nil, b255⟩, ht.code, ht.text⟩
  case reply => exact ⟨ht.kind, ht.bn, ht.br, ht.base, ht.slot, ht.node, ht.val, ht.votes, ht.items, ht.cmd, h.code, h.text⟩
  case node => exact ⟨ht.kind, ht.bn, ht.br, ht.base, ht.slot, h.node, ht.val, ht.votes, ht.items, ht.cmd, ht.code, ht.text⟩
  case byy => exact ⟨ht.kind, h.bn, h.br, ht.base, ht.slot, ht.node, ht.val, ht.votes, ht.items, ht.cmd, ht.code, ht.text⟩
  case base => exact ⟨ht.kind, ht.bn, ht.br, h.base, ht.slot, ht.node, ht.val, ht.votes, ht.items, ht.cmd, ht.code, ht.text⟩
  case upto => exact ⟨ht.kind, ht.bn, ht.br, ht.base, h.slot, ht.node, ht.val, ht.votes, ht.items, ht.cmd, ht.code, ht.text⟩
  case slot => exact ⟨ht.kind, ht.bn, ht.br, ht.base, h.slot, ht.node, ht.val, ht.votes, ht.items, ht.cmd, ht.code, ht.text⟩
  case value => exact ⟨ht.kind, ht.bn, ht.br, ht.base, ht.slot, ht.node, h.val, ht.votes, ht.items, ht.cmd, ht.code, ht.text⟩
  case votes => exact ⟨ht.kind, ht.bn, ht.br, ht.base, ht.slot, ht.node, ht.val, h.votes, ht.items, ht.cmd, ht.code, ht.text⟩
  case items => exact ⟨ht.kind, ht.bn, ht.br, ht.base, ht.slot, ht.node, ht.val, ht.votes, h.items, ht.cmd, ht.code, ht.text⟩
theorem wf_fold {m : Ms} (h : WfM m) : ∀ (l : List Pt) (tt : Ms), WfM tt → WfM (l.foldl (ptMove m) tt)
  | [], _, ht => ht
  | p :: l, _, ht => wf_fold h l _ (wf_move h ht p)

theorem Lists.shape {w : World} {G : Nat → Prop} {m : Ms} {vv vi : Value} (h : Lists w G m vv vi) : ∃ Av nv cv Ai ni ci, vv = .slice Av nv cv ∧ vi = .slice Ai ni ci := by
  obtain ⟨A, c, e, _⟩ := h.votes.shape
  obtain ⟨A', c', e', _⟩ := h.items.shape
  exact ⟨A, _, c, A', _, c', e, e'⟩

/-- What moves a part. -/
theorem mv_any (p : Pt) {w : World} {g : Nat} (m tt : Ms) (hwm : WfM m) {vv vi wv wi : Value} {G F : Nat → Prop} (hM : Blk w g 34 (msCells tt wv wi)) (hm : Lists w G m vv vi) (ht : Lists w F tt wv wi) (hF : ∀ k, F k → k < w.heap.size ∧ k ≠ g) :
    Calls Try.prog (fMove p) #[.pointer (some ⟨g, 0, none⟩), msV m vv vi] w fun e w' => e = .returned (.tuple #[]) ∧ ∃ wv' wi', Blk w' g 34 (msCells (ptMove m tt p) wv' wi') ∧ Lists w' (fun k => F k ∨ (w.heap.size ≤ k ∧ k < w'.heap.size)) (ptMove m tt p) wv' wi' ∧ Upd (fun j => j = g) w w' := by
  obtain ⟨Av, nv, cv, Ai, ni, ci, rfl, rfl⟩ := hm.shape
  obtain ⟨Bv, n1, c1, Bi, n2, c2, rfl, rfl⟩ := ht.shape
  have hkeep : ∀ {w' : World} (q : Pt) (_ : (ptMove m tt q).votes = tt.votes) (_ : (ptMove m tt q).items = tt.items), Upd (fun j => j = g) w w' → Lists w' (fun k => F k ∨ (w.heap.size ≤ k ∧ k < w'.heap.size)) (ptMove m tt q) (.slice Bv n1 c1) (.slice Bi n2 c2) := fun {w'} q hv hi hu => by
    have := (ht.upd hu (fun k hk e => (hF k hk).2 e)).more (F := fun k => F k ∨ (w.heap.size ≤ k ∧ k < w'.heap.size)) (fun k hk => .inl hk)
    exact ⟨by rw [hv]; exact this.votes, by rw [hi]; exact this.items⟩
  have hown : ∀ {w' : World} {e : TypeId} {size n : Nat} {v' : Value} {xs : List Value}, w'.ownsRow 0 e size v' n xs → (∀ j, v'.ownBlock = some j → w.heap.size ≤ j) → Sl w' (fun k => F k ∨ (w.heap.size ≤ k ∧ k < w'.heap.size)) size v' n xs := fun ho hv => (Sl.own ho).more (fun k hk => .inr ⟨hv k hk, (ho.lt k hk).2⟩)
  cases p
  case whole => exact (wh_move m tt hM).mono fun e w' ⟨he, hb, hu⟩ => ⟨he, _, _, hb, hkeep .whole rfl rfl hu, hu⟩
  case name => exact (nm_move m tt hM).mono fun e w' ⟨he, hb, hu⟩ => ⟨he, _, _, hb, hkeep .name rfl rfl hu, hu⟩
  case reply => exact (rp_move m tt hM).mono fun e w' ⟨he, hb, hu⟩ => ⟨he, _, _, hb, hkeep .reply rfl rfl hu, hu⟩
  case node => exact (nd_move m tt hM).mono fun e w' ⟨he, hb, hu⟩ => ⟨he, _, _, hb, hkeep .node rfl rfl hu, hu⟩
  case byy => exact (by_move m tt hM).mono fun e w' ⟨he, hb, hu⟩ => ⟨he, _, _, hb, hkeep .byy rfl rfl hu, hu⟩
  case base => exact (bs_move m tt hM).mono fun e w' ⟨he, hb, hu⟩ => ⟨he, _, _, hb, hkeep .base rfl rfl hu, hu⟩
  case upto => exact (up_move m tt hM).mono fun e w' ⟨he, hb, hu⟩ => ⟨he, _, _, hb, hkeep .upto rfl rfl hu, hu⟩
  case slot => exact (up_move m tt hM).mono fun e w' ⟨he, hb, hu⟩ => ⟨he, _, _, hb, hkeep .upto rfl rfl hu, hu⟩
  case value => exact (va_move m tt hM).mono fun e w' ⟨he, hb, hu⟩ => ⟨he, _, _, hb, hkeep .value rfl rfl hu, hu⟩
  case votes => exact (vo_move m tt hM hm.votes hwm.votes.1).mono fun e w' ⟨he, v', hb, ho, hv, hu⟩ => ⟨he, _, _, hb, ⟨hown ho hv, (hkeep .upto rfl rfl hu).items⟩, hu⟩
  case items => exact (it_move m tt hM hm.items hwm.items.1).mono fun e w' ⟨he, v', hb, ho, hv, hu⟩ => ⟨he, _, _, hb, ⟨(hkeep .upto rfl rfl hu).votes, hown ho hv⟩, hu⟩

/-- A message's texts are no longer than memory bears. -/
structure TxtM (m : Ms) : Prop where
  key : m.cmd.key.length ≤ 100000000
  old : m.cmd.old.length ≤ 100000000
  new : m.cmd.new.length ≤ 100000000
  text : m.text.length ≤ 100000000

/-- May a part be. -/
theorem my_any (p : Pt) {w : World} (m : Ms) (hwm : WfM m) (hx : TxtM m) {vv vi : Value} {G : Nat → Prop} (hm : Lists w G m vv vi) :
    Calls Try.prog (fMay p) #[msV m vv vi] w fun e w' => e = .returned (.bool (ptMay m p)) ∧ Upd (fun _ => False) w w' := by
  obtain ⟨Av, nv, cv, Ai, ni, ci, rfl, rfl⟩ := hm.shape
  have hl : m.cmd.key.length ≤ 1000000000 ∧ m.cmd.old.length ≤ 1000000000 ∧ m.cmd.new.length ≤ 1000000000 ∧ m.text.length ≤ 1000000000 := ⟨by have := hx.key; omega, by have := hx.old; omega, by have := hx.new; omega, by have := hx.text; omega⟩
  cases p
  case whole => exact wh_may m hwm _ _ _ _ _ _ hl
  case name => exact nm_may m hwm _ _ _ _ _ _ hl
  case reply => exact rp_may m hwm _ _ _ _ _ _ hl
  case node => exact nd_may m hwm _ _ _ _ _ _ hl
  case byy => exact by_may m hwm _ _ _ _ _ _ hl
  case base => exact bs_may m hwm _ _ _ _ _ _ hl
  case upto => exact up_may m hwm _ _ _ _ _ _ hl
  case slot => exact sl_may m hwm _ _ _ _ _ _ hl
  case value => exact va_may m hwm _ _ _ _ _ _ hl
  case votes => exact vo_may m _ _ _ _ _ _ hm.votes hwm.votes.1
  case items => exact it_may m _ _ _ _ _ _ hm.items hwm.items.1

/-- What puts a part. -/
theorem pt_any (p : Pt) {w : World} {v : Value} {l : List Int} (h : Ow w v l) (m : Ms) (hwm : WfM m) (hx : TxtM m) {vv vi : Value} {G : Nat → Prop} (hm : Lists w G m vv vi) (hG : ∀ g, G g → v.ownBlock ≠ some g) (hl : l.length ≤ 1000000) (hb : (m.votes.flatMap vtBy).length ≤ 50000000 ∧ (m.items.flatMap itBy).length ≤ 50000000) :
    Calls Try.prog (fPut p) #[v, msV m vv vi] w fun e w' => ∃ v', e = .returned v' ∧ OwTo w v (l ++ ptBy m p) w' v' := by
  obtain ⟨Av, nv, cv, Ai, ni, ci, rfl, rfl⟩ := hm.shape
  have hs : m.cmd.key.length ≤ 100000000 ∧ m.cmd.old.length ≤ 100000000 ∧ m.cmd.new.length ≤ 100000000 ∧ m.text.length ≤ 100000000 := ⟨hx.key, hx.old, hx.new, hx.text⟩
  have hl8 : l.length ≤ 100000000 := by omega
  cases p
  case whole => exact wh_put h m hwm _ _ _ _ _ _ hl8 hs
  case name => exact nm_put h m hwm _ _ _ _ _ _ hl8 hs
  case reply => exact rp_put h m hwm _ _ _ _ _ _ hl8 hs
  case node => exact nd_put h m hwm _ _ _ _ _ _ hl8 hs
  case byy => exact by_put h m hwm _ _ _ _ _ _ hl8 hs
  case base => exact bs_put h m hwm _ _ _ _ _ _ hl8 hs
  case upto => exact up_put h m hwm _ _ _ _ _ _ hl8 hs
  case slot => exact up_put h m hwm _ _ _ _ _ _ hl8 hs
  case value => exact va_put h m hwm _ _ _ _ _ _ hl8 hs
  case votes => exact vo_put h m hwm _ _ _ _ _ _ hl hm.votes hG hb.1
  case items => exact it_put h m hwm _ _ _ _ _ _ hl hm.items hG hb.2

/-- What the kinds' map tells of a kind. -/
structure KLook (w : World) (m : Nat) (k : Int) (A : Option Addr) (n c : Nat) (wr : World) : Prop where
  run_ : (Instr.lookup 51 (.map (some m)) (.int .u8 k) false).run Try.prog wr = .ok (.slice A n c) wr
  runOk : (Instr.lookup 51 (.map (some m)) (.int .u8 k) true).run Try.prog wr = .ok (.tuple #[.slice A n c, .bool (decide (1 ≤ k ∧ k ≤ 13))]) wr
  len : n = (ptsOf k).length
  row : 0 < n → ∃ g, A = some ⟨g, 0, none⟩ ∧ w.heap.size ≤ g ∧ Blk wr g 57 ((ptsOf k).flatMap ptCells).toArray
theorem ptsOf_none {k : Int} (h : ¬ (1 ≤ k ∧ k ≤ 13)) : ptsOf k = [] := by
  unfold ptsOf
  rw [if_neg (by omega), if_neg (by omega), if_neg (by omega), if_neg (by omega), if_neg (by omega), if_neg (by omega), if_neg (by omega), if_neg (by omega), if_neg (by omega), if_neg (by omega), if_neg (by omega), if_neg (by omega), if_neg (by omega)]
theorem klook {w : World} {m : Nat} {f : Int → Option Value} {wr : World} (h : KInv w m [13, 12, 11, 10, 9, 8, 7, 6, 5, 4, 3, 2, 1] f 13 wr) (k : Int) (k0 : 0 ≤ k) (k1 : k ≤ 255) : ∃ A n c, KLook w m k A n c wr := by
  have h1 := h.map.look Try.underlying51 id (fun v x ps hh => vR_inv v x ps hh) (.slice none 0 0) (zeroP wr) rfl (wf_u8_ k0 k1)
  have h2 := h.map.look_ok Try.underlying51 id (fun v x ps hh => vR_inv v x ps hh) (.slice none 0 0) (zeroP wr) rfl (wf_u8_ k0 k1)
  have hk := h.keys k
  cases hf : f k with
  | none =>
    rw [hf] at h1 h2 hk
    have hno : ¬ (1 ≤ k ∧ k ≤ 13) := fun hh => by
      have : k ∈ [(13 : Int), 12, 11, 10, 9, 8, 7, 6, 5, 4, 3, 2, 1] := by
        simp only [List.mem_cons, List.not_mem_nil, or_false]; omega
      rw [decide_eq_true this] at hk
      cases hk
    exact ⟨none, 0, 0, h1, by rw [decide_eq_false hno]; exact h2, by rw [ptsOf_none hno]; rfl, fun hh => absurd hh (by omega)⟩
  | some s =>
    rw [hf] at h1 h2 hk
    have hin := of_decide_eq_true hk.symm
    have hyes : 1 ≤ k ∧ k ≤ 13 := by
      simp only [List.mem_cons, List.not_mem_nil, or_false] at hin; omega
    obtain ⟨g, g1, rfl, g3⟩ := h.rows k s hf
    exact ⟨some ⟨g, 0, none⟩, _, _, h1, by rw [decide_eq_true hyes]; exact h2, rfl, fun _ => ⟨g, rfl, g1, g3⟩⟩
theorem pt_at : ∀ (L : List Pt) (k : Nat) (hk : k < L.length) (j : Nat), j < 4 → (L.flatMap ptCells)[k * 4 + j]? = (ptCells L[k])[j]?
  | x :: L, 0, _, j, hj => by
    rw [List.flatMap_cons, List.getElem?_append_left (by simp [ptCells]; omega)]
    simp
  | x :: L, k + 1, hk, j, hj => by
    rw [List.flatMap_cons, List.getElem?_append_right (by simp [ptCells]; omega)]
    have := pt_at L k (by simpa using hk) j hj
    rw [show (k + 1) * 4 + j - (ptCells x).length = k * 4 + j by simp [ptCells]; omega, this]
    simp
/-- The four cells of a kind's part. -/
theorem KLook.cell {w : World} {m : Nat} {k : Int} {A : Option Addr} {n c : Nat} {wr : World} (h : KLook w m k A n c wr) {F : Nat → Prop} {wx : World} (hu : Upd F wr wx) (hF : ∀ j, w.heap.size ≤ j → j < wr.heap.size → ¬ F j) {i : Nat} (hi : i < n) :
    ∃ g p, A = some ⟨g, 0, none⟩ ∧ (ptsOf k)[i]? = some p ∧ wx.cell? ⟨g, i * 4, none⟩ = some (fv (fPut p)) ∧ wx.cell? ⟨g, i * 4 + 1, none⟩ = some (fv (fTake p)) ∧ wx.cell? ⟨g, i * 4 + 2, none⟩ = some (fv (fMove p)) ∧ wx.cell? ⟨g, i * 4 + 3, none⟩ = some (fv (fMay p)) := by
  obtain ⟨g, hA, hg, hb⟩ := h.row (by omega)
  have hil : i < (ptsOf k).length := by rw [← h.len]; exact hi
  have hbx := hb.upd hu (hF g hg hb.lt)
  have hc : ∀ j, j < 4 → wx.cell? ⟨g, i * 4 + j, none⟩ = (ptCells (ptsOf k)[i])[j]? := fun j hj => by
    rw [hbx.cell, ← pt_at _ i hil j hj]
    simp
  exact ⟨g, _, hA, List.getElem?_eq_getElem hil, hc 0 (by omega), hc 1 (by omega), hc 2 (by omega), hc 3 (by omega)⟩
/-- A whole struct is loaded, under a guard that holds. -/
theorem wpList_load_on {P : Program} {ops : Array Oper} {rest : List Oper} {o : Oper} {a : Act} {w : World} {Q : Exit → Act → World → Prop} (ty : TypeId) (x : Operand) (ho : o.op = .load ty x) (hwn : Region.wanted o (yielded ops a.tmps) = true)
    (g : Nat) (hx : a.eval x = .pointer (some ⟨g, 0, none⟩)) (t : TypeId) (cs : Array Value) (fr : Nat × Nat) (d : TypeDesc) (hg : w.heap[g]? = some (.cells cs t fr))
    (hu : P.underlying ty = some d) (hd : (match d with | .struct _ | .array _ _ => true | _ => false) = true) (hi : (P.info? ty).map (·.size) = some cs.size)
    (h : wpList P ops Q rest (a.put o.dst (.agg cs)) w) : wpList P ops Q (o :: rest) a w :=
  wpList_step fun K hK => by
    rw [if_pos hwn]
    exact wp_load_row ty x ho g hx t cs fr d hg hu hd hi (hK _ _ h)
theorem infoMsgSize : (Try.prog.info? 34).map (·.size) = some 18 := by kernel_rfl
/-- A whole message is loaded. -/
theorem load_msg {w : World} {g : Nat} {t : TypeId} {cs : Array Value} (h : Blk w g t cs) (hs : cs.size = 18) : (Instr.loadAt 34 (.pointer (some ⟨g, 0, none⟩))).run Try.prog w = .ok (.agg cs) w := by
  simp only [Instr.loadAt, Instr.sureAddr, Sem.run_bind, Sem.run_pure, Result.andThen_ok, run_loadVar_row w g t 34 cs (0, 0) _ h Try.underlying34 rfl (by rw [hs]; exact infoMsgSize)]
theorem call_move (p : Pt) (args : Array Value) (w : World) : (callFunc (fMove p) args).run Try.prog w = .ok (.enter (fMove p) args) w := by
  cases p <;> kernel_rfl
theorem call_may (p : Pt) (args : Array Value) (w : World) : (callFunc (fMay p) args).run Try.prog w = .ok (.enter (fMay p) args) w := by
  cases p <;> kernel_rfl
theorem call_put (p : Pt) (args : Array Value) (w : World) : (callFunc (fPut p) args).run Try.prog w = .ok (.enter (fPut p) args) w := by
  cases p <;> kernel_rfl
theorem call_take (p : Pt) (args : Array Value) (w : World) : (callFunc (fTake p) args).run Try.prog w = .ok (.enter (fTake p) args) w := by
  cases p <;> kernel_rfl
end Go.Proofs.Ytaielcokfpodaaa
