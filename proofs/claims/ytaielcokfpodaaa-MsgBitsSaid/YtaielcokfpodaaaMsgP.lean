/-
  Plain law of layers 7, 9 and 18: ballots, commands and messages as bytes, and read from bytes. Conditions: none.
-/
import Derived.Test.YtaielcokfpodaaaFrameB
namespace Go.Proofs.Ytaielcokfpodaaa

structure Vt where
  slot : Int
  n : Int
  r : Int
  val : List Int
structure It where
  slot : Int
  val : List Int
structure Cm where
  client : Int
  seq : Int
  kind : Int
  key : List Int
  old : List Int
  new : List Int
  set : Int
structure Ms where
  kind : Int
  bn : Int
  br : Int
  base : Int
  slot : Int
  node : Int
  val : List Int
  votes : List Vt
  items : List It
  cmd : Cm
  code : Int
  text : List Int
def Vt.tup (a : Vt) : Int × Int × Int × List Int := (a.slot, a.n, a.r, a.val)
def It.tup (a : It) : Int × List Int := (a.slot, a.val)
def Cm.tup (a : Cm) : Int × Int × Int × List Int × List Int × List Int × Int := (a.client, a.seq, a.kind, a.key, a.old, a.new, a.set)
theorem Vt.tup_inj {a b : Vt} : a.tup = b.tup ↔ a = b := by cases a; cases b; simp [Vt.tup]
theorem It.tup_inj {a b : It} : a.tup = b.tup ↔ a = b := by cases a; cases b; simp [It.tup]
theorem Cm.tup_inj {a b : Cm} : a.tup = b.tup ↔ a = b := by cases a; cases b; simp [Cm.tup]
instance : DecidableEq Vt := fun _ _ => decidable_of_iff _ Vt.tup_inj
instance : DecidableEq It := fun _ _ => decidable_of_iff _ It.tup_inj
instance : DecidableEq Cm := fun _ _ => decidable_of_iff _ Cm.tup_inj
def Ms.eqB (a b : Ms) : Bool := a.kind == b.kind && a.bn == b.bn && a.br == b.br && a.base == b.base && a.slot == b.slot && a.node == b.node && a.val == b.val && decide (a.votes = b.votes) && decide (a.items = b.items) && decide (a.cmd = b.cmd) && a.code == b.code && a.text == b.text
theorem Ms.eqB_iff {a b : Ms} : a.eqB b = true ↔ a = b := by
  cases a
  cases b
  simp only [Ms.eqB, Ms.mk.injEq, Bool.and_eq_true, beq_iff_eq, decide_eq_true_eq, and_assoc]
instance : DecidableEq Ms := fun _ _ => decidable_of_iff _ Ms.eqB_iff

def cm0 : Cm := ⟨0, 0, 0, [], [], [], 0⟩
def ms0 (k : Int) : Ms := ⟨k, 0, 0, 0, 0, 0, [], [], [], cm0, 0, []⟩

/-! Bytes. -/
def strBy (l : List Int) : List Int := numE l.length ++ l
def balBy (n r : Int) : List Int := numE n.toNat ++ [r]
def cmdBy (c : Cm) : List Int := [c.client] ++ numE c.seq.toNat ++ [c.kind] ++ strBy c.key ++ strBy c.old ++ strBy c.new ++ [c.set]
def vtBy (v : Vt) : List Int := numE v.slot.toNat ++ balBy v.n v.r ++ strBy v.val
def itBy (x : It) : List Int := numE x.slot.toNat ++ strBy x.val

/-- May a ballot be? -/
def balB (n r : Int) : Bool := decide (n = 0 ∧ r = 0 ∨ n ≠ 0 ∧ r < 7)
def goodB (n r : Int) : Bool := decide (n ≠ 0 ∧ r < 7)
def cIs (k : Int) : Bool := decide (1 ≤ k ∧ k ≤ 5)
def cKey (k : Int) : Bool := decide (1 ≤ k ∧ k ≤ 4)
def cOld (k : Int) : Bool := decide (k = 4)
def cNew (k : Int) : Bool := decide (k = 2 ∨ k = 4)
def cSet (k : Int) : Bool := decide (k = 5)
def longB (l : List Int) (most : Nat) (has : Bool) : Bool := decide (most < l.length) || (!(decide (l = [])) && !has)
/-- May a command be? -/
def cmdMay (c : Cm) : Bool :=
  cIs c.kind && decide (c.client < 4) && !(decide (c.seq = 0)) && !(longB c.key 16 (cKey c.kind)) && !(longB c.old 64 (cOld c.kind)) && !(longB c.new 64 (cNew c.kind)) && !(decide (c.key = []) && cKey c.kind) && !(!(decide (c.set = 0)) && !cSet c.kind)
/-- Slots that rise, from above one on. -/
def risesB : Int → List Int → Bool
  | _, [] => true
  | last, s :: l => decide (last < s ∧ s ≤ 4611686018427387904) && risesB s l

/-! Reading. -/
def pBal (s : Rs) : (Int × Int) × Rs :=
  let a := pNum s
  let b := pByte a.2
  let t := if balB a.1 b.1 then b.2 else pBad b.2
  if t.2 = 0 then ((a.1, b.1), t) else ((0, 0), t)
def pCmd (s : Rs) : Cm × Rs :=
  let a := pByte s
  let b := pBelow 4294967296 a.2
  let c := pByte b.2
  let d := pStr 16 c.2
  let e := pStr 64 d.2
  let f := pStr 64 e.2
  let g := pByte f.2
  let x : Cm := ⟨a.1, b.1, c.1, d.1, e.1, f.1, g.1⟩
  let t := if cmdMay x then g.2 else pBad g.2
  if t.2 = 0 then (x, t) else (cm0, t)
def pVt (s : Rs) : Vt × Rs :=
  let a := pNum s
  let b := pBal a.2
  let c := pStr 65536 b.2
  (⟨a.1, b.1.1, b.1.2, c.1⟩, c.2)
def pIt (s : Rs) : It × Rs :=
  let a := pNum s
  let c := pStr 65536 a.2
  (⟨a.1, c.1⟩, c.2)
def pVts : Nat → List Vt × Rs → List Vt × Rs
  | 0, x => x
  | n + 1, x => if x.2.2 = 0 then pVts n (x.1 ++ [(pVt x.2).1], (pVt x.2).2) else x
def pIts : Nat → List It × Rs → List It × Rs
  | 0, x => x
  | n + 1, x => if x.2.2 = 0 then pIts n (x.1 ++ [(pIt x.2).1], (pIt x.2).2) else x

/-- The parts of messages. -/
inductive Pt where
  | whole
  | name
  | reply
  | node
  | byy
  | base
  | upto
  | slot
  | value
  | votes
  | items
def ptsOf (k : Int) : List Pt :=
  if k = 1 then [.whole] else if k = 2 then [.name, .reply] else if k = 3 then [.name, .node] else if k = 4 then [.byy, .slot] else if k = 5 then [.byy, .base, .upto, .votes] else if k = 6 then [.byy]
  else if k = 7 then [.byy, .slot, .value] else if k = 8 then [.byy, .slot] else if k = 9 then [.items] else if k = 10 then [.upto] else if k = 11 then [.byy, .upto] else if k = 12 then [.slot, .value] else if k = 13 then [.base, .slot, .value] else []
def ptBy (m : Ms) : Pt → List Int
  | .whole => cmdBy m.cmd
  | .name => [m.cmd.client] ++ numE m.cmd.seq.toNat
  | .reply => [m.code] ++ strBy m.text
  | .node => [m.node]
  | .byy => balBy m.bn m.br
  | .base => numE m.base.toNat
  | .upto => numE m.slot.toNat
  | .slot => numE m.slot.toNat
  | .value => strBy m.val
  | .votes => numE m.votes.length ++ m.votes.flatMap vtBy
  | .items => numE m.items.length ++ m.items.flatMap itBy
def ptTake (x : Ms × Rs) : Pt → Ms × Rs
  | .whole => ({ x.1 with cmd := (pCmd x.2).1 }, (pCmd x.2).2)
  | .name => ({ x.1 with cmd := ⟨(pByte x.2).1, (pBelow 4294967296 (pByte x.2).2).1, 0, [], [], [], 0⟩ }, (pBelow 4294967296 (pByte x.2).2).2)
  | .reply => ({ x.1 with code := (pByte x.2).1, text := (pStr 64 (pByte x.2).2).1 }, (pStr 64 (pByte x.2).2).2)
  | .node => ({ x.1 with node := (pByte x.2).1 }, (pByte x.2).2)
  | .byy => ({ x.1 with bn := (pBal x.2).1.1, br := (pBal x.2).1.2 }, (pBal x.2).2)
  | .base => ({ x.1 with base := (pNum x.2).1 }, (pNum x.2).2)
  | .upto => ({ x.1 with slot := (pNum x.2).1 }, (pNum x.2).2)
  | .slot => ({ x.1 with slot := (pNum x.2).1 }, (pNum x.2).2)
  | .value => ({ x.1 with val := (pStr 65536 x.2).1 }, (pStr 65536 x.2).2)
  | .votes => ({ x.1 with votes := (pVts (pNum x.2).1.toNat (x.1.votes, (pNum x.2).2)).1 }, (pVts (pNum x.2).1.toNat (x.1.votes, (pNum x.2).2)).2)
  | .items => ({ x.1 with items := (pIts (pNum x.2).1.toNat (x.1.items, (pNum x.2).2)).1 }, (pIts (pNum x.2).1.toNat (x.1.items, (pNum x.2).2)).2)
def ptMove (m to : Ms) : Pt → Ms
  | .whole => { to with cmd := m.cmd }
  | .name => { to with cmd := ⟨m.cmd.client, m.cmd.seq, 0, [], [], [], 0⟩ }
  | .reply => { to with code := m.code, text := m.text }
  | .node => { to with node := m.node }
  | .byy => { to with bn := m.bn, br := m.br }
  | .base => { to with base := m.base }
  | .upto => { to with slot := m.slot }
  | .slot => { to with slot := m.slot }
  | .value => { to with val := m.val }
  | .votes => { to with votes := m.votes }
  | .items => { to with items := m.items }
def ptMay (m : Ms) : Pt → Bool
  | .whole => cmdMay m.cmd
  | .name => decide (m.cmd.client < 4) && decide (0 < m.cmd.seq)
  | .reply => decide (m.code ≤ 3) && decide (m.text.length ≤ 64)
  | .node => decide (m.node < 7)
  | .byy => goodB m.bn m.br
  | .base => decide (m.base ≤ 4611686018427387904)
  | .upto => decide (m.slot ≤ 4611686018427387904)
  | .slot => risesB 0 [m.slot]
  | .value => true
  | .votes => risesB 0 (m.votes.map Vt.slot) && m.votes.all (fun v => goodB v.n v.r)
  | .items => decide (0 < m.items.length) && risesB 0 (m.items.map It.slot)
def ownM (m : Ms) : Ms := (ptsOf m.kind).foldl (ptMove m) (ms0 m.kind)
/-- May a message be? -/
def mayM (m : Ms) : Bool := decide (1 ≤ m.kind ∧ m.kind ≤ 13) && (ptsOf m.kind).all (ptMay m) && decide (ownM m = m)
def insM (m : Ms) : List Int := m.kind :: (ptsOf m.kind).flatMap (ptBy m)
/-- The message of bytes, the error. -/
def inM (ins : List Int) : Ms × Int :=
  let k := pByte (ins, 0)
  let r := (ptsOf k.1).foldl ptTake (ms0 k.1, k.2)
  if (pEnd r.2).2 = 0 ∧ mayM r.1 = true then (r.1, 0) else (ms0 0, 4)
def takeM (l : List Int) : Ms × Int :=
  let f := pFrame l
  if f.2.2 ≠ 0 then (ms0 0, f.2.2) else if f.2.1 < (l.length : Int) then (ms0 0, 4) else inM f.1
/-- A message's bytes, the error. -/
def putM (m : Ms) : List Int × Int := if mayM m then (if (insM m).length ≤ 65536 then (frameB (insM m), 0) else ([], 6)) else ([], 2)

/-- All fields are what their types hold. -/
structure WfC (c : Cm) : Prop where
  client : 0 ≤ c.client ∧ c.client ≤ 255
  seq : 0 ≤ c.seq ∧ c.seq < 4294967296
  kind : 0 ≤ c.kind ∧ c.kind ≤ 255
  key : Byt c.key
  old : Byt c.old
  new : Byt c.new
  set : 0 ≤ c.set ∧ c.set ≤ 255
structure WfV (v : Vt) : Prop where
  slot : 0 ≤ v.slot ∧ v.slot < 18446744073709551616
  n : 0 ≤ v.n ∧ v.n < 18446744073709551616
  r : 0 ≤ v.r ∧ v.r ≤ 255
  val : Byt v.val ∧ v.val.length ≤ 65536
structure WfI (v : It) : Prop where
  slot : 0 ≤ v.slot ∧ v.slot < 18446744073709551616
  val : Byt v.val ∧ v.val.length ≤ 65536
structure WfM (m : Ms) : Prop where
  kind : 0 ≤ m.kind ∧ m.kind ≤ 255
  bn : 0 ≤ m.bn ∧ m.bn < 18446744073709551616
  br : 0 ≤ m.br ∧ m.br ≤ 255
  base : 0 ≤ m.base ∧ m.base < 18446744073709551616
  slot : 0 ≤ m.slot ∧ m.slot < 18446744073709551616
  node : 0 ≤ m.node ∧ m.node ≤ 255
  val : Byt m.val ∧ m.val.length ≤ 65536
  votes : m.votes.length ≤ 1000000 ∧ ∀ v ∈ m.votes, WfV v
  items : m.items.length ≤ 1000000 ∧ ∀ v ∈ m.items, WfI v
  cmd : WfC m.cmd
  code : 0 ≤ m.code ∧ m.code ≤ 255
  text : Byt m.text

/-! What was put is read. -/
theorem pByte_cons (x : Int) (l : List Int) : pByte (x :: l, 0) = (x, (l, 0)) := by simp [pByte, pTake]
theorem pTake_left (a b : List Int) : pTake a.length (a ++ b, 0) = (a, (b, 0)) := by simp [pTake]
theorem pNum_put {n : Int} (h : 0 ≤ n ∧ n < 18446744073709551616) (rest : List Int) : pNum (numE n.toNat ++ rest, 0) = (n, (rest, 0)) := by
  rw [pNum_numE n.toNat (by omega), Int.toNat_of_nonneg h.1]
theorem pBelow_put {n m : Int} (h0 : 0 ≤ n) (h : n < m) (hm : m ≤ 18446744073709551616) (rest : List Int) : pBelow m (numE n.toNat ++ rest, 0) = (n, (rest, 0)) := by
  unfold pBelow
  rw [pNum_put ⟨h0, by omega⟩]
  simp only [pBelowV, ne_eq, not_true_eq_false, if_false]
  rw [if_neg (by omega)]
theorem pStr_put {l : List Int} {most : Int} (h : (l.length : Int) ≤ most) (hl : l.length ≤ 1000000000) (rest : List Int) : pStr most (strBy l ++ rest, 0) = (l, (rest, 0)) := by
  unfold pStr strBy
  rw [List.append_assoc, pNum_numE _ (by omega)]
  simp only [pBelowV, ne_eq, not_true_eq_false, if_false]
  rw [if_neg (by omega)]
  simp only [Int.toNat_natCast]
  exact pTake_left _ _
theorem pBal_put {n r : Int} (hn : 0 ≤ n ∧ n < 18446744073709551616) (hb : balB n r = true) (rest : List Int) : pBal (balBy n r ++ rest, 0) = ((n, r), (rest, 0)) := by
  unfold pBal balBy
  rw [List.append_assoc, pNum_put hn]
  simp only [List.singleton_append, pByte_cons, hb, if_true]
theorem longB_no {l : List Int} {k : Nat} {h : Bool} (hl : longB l k h = false) : l.length ≤ k := by
  unfold longB at hl
  simp only [Bool.or_eq_false_iff, decide_eq_false_iff_not] at hl
  omega
theorem cmdMay_len {c : Cm} (h : cmdMay c = true) : c.key.length ≤ 16 ∧ c.old.length ≤ 64 ∧ c.new.length ≤ 64 := by
  unfold cmdMay at h
  simp only [Bool.and_eq_true, Bool.not_eq_true'] at h
  exact ⟨longB_no h.1.1.1.1.2, longB_no h.1.1.1.2, longB_no h.1.1.2⟩
theorem pCmd_put {c : Cm} (hw : WfC c) (hm : cmdMay c = true) (rest : List Int) : pCmd (cmdBy c ++ rest, 0) = (c, (rest, 0)) := by
  obtain ⟨h1, h2, h3⟩ := cmdMay_len hm
  unfold pCmd cmdBy
  simp only [List.append_assoc, List.cons_append, List.nil_append, pByte_cons]
  rw [pBelow_put hw.seq.1 hw.seq.2 (by omega)]
  simp only [pByte_cons]
  rw [pStr_put (by omega) (by omega)]
  simp only
  rw [pStr_put (by omega) (by omega)]
  simp only
  rw [pStr_put (by omega) (by omega)]
  simp only [pByte_cons, hm, if_true]
theorem goodB_bal {n r : Int} (h : goodB n r = true) : balB n r = true := by
  unfold goodB balB at *
  have := of_decide_eq_true h
  exact decide_eq_true (.inr this)
theorem pVt_put {v : Vt} (hw : WfV v) (hb : goodB v.n v.r = true) (rest : List Int) : pVt (vtBy v ++ rest, 0) = (v, (rest, 0)) := by
  unfold pVt vtBy
  simp only [List.append_assoc]
  rw [pNum_put hw.slot]
  simp only
  rw [pBal_put hw.n (goodB_bal hb)]
  simp only
  rw [pStr_put (by have := hw.val.2; omega) (by have := hw.val.2; omega)]
theorem pIt_put {v : It} (hw : WfI v) (rest : List Int) : pIt (itBy v ++ rest, 0) = (v, (rest, 0)) := by
  unfold pIt itBy
  simp only [List.append_assoc]
  rw [pNum_put hw.slot]
  simp only
  rw [pStr_put (by have := hw.val.2; omega) (by have := hw.val.2; omega)]
theorem pVts_put : ∀ (l : List Vt) (_ : ∀ v ∈ l, WfV v) (_ : l.all (fun v => goodB v.n v.r) = true) (acc : List Vt) (rest : List Int), pVts l.length (acc, (l.flatMap vtBy ++ rest, 0)) = (acc ++ l, (rest, 0))
  | [], _, _, acc, rest => by simp [pVts]
  | v :: l, hw, hg, acc, rest => by
    simp only [List.all_cons, Bool.and_eq_true] at hg
    rw [List.flatMap_cons, List.append_assoc, List.length_cons, pVts, if_pos rfl]
    simp only
    rw [pVt_put (hw v (by simp)) hg.1]
    simp only
    rw [pVts_put l (fun x hx => hw x (by simp [hx])) hg.2, List.append_assoc]
    rfl
theorem pIts_put : ∀ (l : List It) (_ : ∀ v ∈ l, WfI v) (acc : List It) (rest : List Int), pIts l.length (acc, (l.flatMap itBy ++ rest, 0)) = (acc ++ l, (rest, 0))
  | [], _, acc, rest => by simp [pIts]
  | v :: l, hw, acc, rest => by
    rw [List.flatMap_cons, List.append_assoc, List.length_cons, pIts, if_pos rfl]
    simp only
    rw [pIt_put (hw v (by simp))]
    simp only
    rw [pIts_put l (fun x hx => hw x (by simp [hx])), List.append_assoc]
    rfl
/-- A part that was put is read as it is moved. -/
theorem ptTake_put {m to : Ms} (hw : WfM m) {p : Pt} (hm : ptMay m p = true) (h1 : to.votes = []) (h2 : to.items = []) (rest : List Int) : ptTake (to, (ptBy m p ++ rest, 0)) p = (ptMove m to p, (rest, 0)) := by
  cases p
  case whole => simp only [ptTake, ptBy, ptMove, pCmd_put hw.cmd hm]
  case name =>
    simp only [ptTake, ptBy, ptMove, List.cons_append, List.nil_append, pByte_cons]
    rw [pBelow_put hw.cmd.seq.1 hw.cmd.seq.2 (by omega)]
  case reply =>
    simp only [ptMay, Bool.and_eq_true, decide_eq_true_eq] at hm
    simp only [ptTake, ptBy, ptMove, List.cons_append, List.nil_append, pByte_cons]
    rw [pStr_put (by omega) (by omega)]
  case node => simp only [ptTake, ptBy, ptMove, List.cons_append, List.nil_append, pByte_cons]
  case byy => simp only [ptTake, ptBy, ptMove, pBal_put hw.bn (goodB_bal hm)]
  case base => simp only [ptTake, ptBy, ptMove, pNum_put hw.base]
  case upto => simp only [ptTake, ptBy, ptMove, pNum_put hw.slot]
  case slot => simp only [ptTake, ptBy, ptMove, pNum_put hw.slot]
  case value => simp only [ptTake, ptBy, ptMove, pStr_put (show (m.val.length : Int) ≤ 65536 by have := hw.val.2; omega) (by have := hw.val.2; omega)]
  case votes =>
    simp only [ptMay, Bool.and_eq_true] at hm
    simp only [ptTake, ptBy, ptMove, List.append_assoc]
    rw [pNum_numE _ (by have := hw.votes.1; omega)]
    simp only [Int.toNat_natCast, h1]
    rw [pVts_put _ hw.votes.2 hm.2, List.nil_append]
  case items =>
    simp only [ptTake, ptBy, ptMove, List.append_assoc]
    rw [pNum_numE _ (by have := hw.items.1; omega)]
    simp only [Int.toNat_natCast, h2]
    rw [pIts_put _ hw.items.2, List.nil_append]
/-- Parts without lists leave the lists alone. -/
theorem ptMove_lists {m to : Ms} {p : Pt} (hp : p ≠ .votes ∧ p ≠ .items) (h1 : to.votes = []) (h2 : to.items = []) : (ptMove m to p).votes = [] ∧ (ptMove m to p).items = [] := by
  cases p <;> first
    | exact ⟨h1, h2⟩
    | exact absurd rfl hp.1
    | exact absurd rfl hp.2
/-- At most the last part has a list. -/
def oneList : List Pt → Prop
  | [] => True
  | [_] => True
  | p :: l => (p ≠ .votes ∧ p ≠ .items) ∧ oneList l
theorem one_ite {c : Prop} [Decidable c] {l r : List Pt} (hl : oneList l) (hr : oneList r) : oneList (if c then l else r) := by
  by_cases h : c
  · rw [if_pos h]; exact hl
  · rw [if_neg h]; exact hr
theorem ptsOf_one (k : Int) : oneList (ptsOf k) := by
  unfold ptsOf
  repeat' apply one_ite
  all_goals repeat' (first | trivial | apply And.intro | (intro h; cases h; done))
theorem fold_put {m : Ms} (hw : WfM m) : ∀ (l : List Pt) (to : Ms), oneList l → l.all (ptMay m) = true → to.votes = [] → to.items = [] → ∀ rest, l.foldl ptTake (to, (l.flatMap (ptBy m) ++ rest, 0)) = (l.foldl (ptMove m) to, (rest, 0))
  | [], to, _, _, _, _, rest => by simp
  | [p], to, _, hm, h1, h2, rest => by
    simp only [List.all_cons, List.all_nil, Bool.and_true] at hm
    simp only [List.foldl_cons, List.foldl_nil, List.flatMap_cons, List.flatMap_nil, List.append_nil]
    exact ptTake_put hw hm h1 h2 rest
  | p :: q :: l, to, ho, hm, h1, h2, rest => by
    rw [List.all_cons, Bool.and_eq_true] at hm
    obtain ⟨g1, g2⟩ := ptMove_lists (m := m) ho.1 h1 h2
    rw [List.foldl_cons, List.flatMap_cons, List.append_assoc, ptTake_put hw hm.1 h1 h2, fold_put hw (q :: l) _ ho.2 hm.2 g1 g2]
    rfl
theorem mayM_parts {m : Ms} (h : mayM m = true) : (1 ≤ m.kind ∧ m.kind ≤ 13) ∧ (ptsOf m.kind).all (ptMay m) = true ∧ ownM m = m := by
  unfold mayM at h
  rw [Bool.and_eq_true, Bool.and_eq_true] at h
  exact ⟨of_decide_eq_true h.1.1, h.1.2, of_decide_eq_true h.2⟩
theorem inM_ins {m : Ms} (hw : WfM m) (h : mayM m = true) : inM (insM m) = (m, 0) := by
  obtain ⟨h1, h2, h3⟩ := mayM_parts h
  have hf := fold_put hw (ptsOf m.kind) (ms0 m.kind) (ptsOf_one _) h2 rfl rfl []
  rw [List.append_nil] at hf
  unfold inM insM
  rw [pByte_cons]
  simp only
  rw [hf]
  have ho : (ptsOf m.kind).foldl (ptMove m) (ms0 m.kind) = m := h3
  simp only [ho, pEnd, if_true, h, and_self]

end Go.Proofs.Ytaielcokfpodaaa
