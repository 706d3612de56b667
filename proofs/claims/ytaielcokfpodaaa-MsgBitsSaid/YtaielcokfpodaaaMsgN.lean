/-
  Layer 18, messages: Take. Conditions: bytes, at most 10^9 of them.
-/
import Derived.Test.YtaielcokfpodaaaMsgR
import Derived.Test.YtaielcokfpodaaaMsgL
namespace Go.Proofs.Ytaielcokfpodaaa
open Go.RowKit Go.Maps

theorem Sl.inb' {w : World} {F : Nat → Prop} {size n : Nat} {v : Value} {xs : List Value} (h : Sl w F size v n xs) : Sl w (fun k => F k ∧ k < w.heap.size) size v n xs := by
  obtain ⟨hl, A, c, rfl, hc, hm, hA, hx⟩ := h
  refine ⟨hl, A, c, rfl, hc, hm, hA, fun hn => ?_⟩
  obtain ⟨b, o, rfl, hF, hb, hcell⟩ := hx hn
  exact ⟨b, o, rfl, ⟨hF, hb⟩, hb, hcell⟩
def LastT (l : List Pt) : Bool := l.dropLast.all (fun q => match q with | .votes => false | .items => false | _ => true)
theorem lastT_ite {c : Prop} [Decidable c] {l r : List Pt} (hl : LastT l = true) (hr : LastT r = true) : LastT (if c then l else r) = true := by
  by_cases h : c
  · rw [if_pos h]; exact hl
  · rw [if_neg h]; exact hr
theorem ptsOf_lastT (k : Int) : LastT (ptsOf k) = true := by
  unfold ptsOf
  repeat' apply lastT_ite
  all_goals rfl
theorem pre_noT (kind : Int) {k : Nat} {p q : Pt} (hp : (ptsOf kind)[k]? = some p) (hq : q ∈ (ptsOf kind).take k) : q ≠ .votes ∧ q ≠ .items := by
  obtain ⟨hk, _⟩ := List.getElem?_eq_some_iff.1 hp
  have h := ptsOf_lastT kind
  unfold LastT at h
  have hm : q ∈ (ptsOf kind).dropLast := by
    rw [List.dropLast_eq_take]
    exact List.take_subset_take_left _ (by omega) hq
  have hx := List.all_eq_true.1 h q hm
  constructor <;> (rintro rfl; simp at hx)
/-- A message's lists are rows of its own, from block B on; one of them is nil. -/
structure OwnM (B : Nat) (w : World) (m : Ms) (vv vi : Value) : Prop where
  votes : w.ownsRow 0 47 4 vv m.votes.length (m.votes.flatMap vtCells)
  items : w.ownsRow 0 49 2 vi m.items.length (m.items.flatMap itCells)
  newv : ∀ j, vv.ownBlock = some j → B ≤ j
  newi : ∀ j, vi.ownBlock = some j → B ≤ j
  one : vv = .slice none 0 0 ∨ vi = .slice none 0 0
theorem OwnM.lists {B : Nat} {w : World} {m : Ms} {vv vi : Value} (h : OwnM B w m vv vi) : Lists w (fun k => B ≤ k ∧ k < w.heap.size) m vv vi :=
  ⟨(Sl.own h.votes).inb'.more (fun k hk => ⟨h.newv k hk.1, hk.2⟩), (Sl.own h.items).inb'.more (fun k hk => ⟨h.newi k hk.1, hk.2⟩)⟩
theorem OwnM.nil (B : Nat) (w : World) (m : Ms) (h1 : m.votes = []) (h2 : m.items = []) : OwnM B w m (.slice none 0 0) (.slice none 0 0) :=
  ⟨by rw [h1]; exact World.ownsRow_nil _ _ _ _, by rw [h2]; exact World.ownsRow_nil _ _ _ _, fun j hj => (no_own_nil j hj).elim, fun j hj => (no_own_nil j hj).elim, .inl rfl⟩
theorem OwnM.upd {B : Nat} {w w' : World} {m : Ms} {vv vi : Value} {F : Nat → Prop} (h : OwnM B w m vv vi) (hu : Upd F w w') (hd : ∀ k, B ≤ k → ¬ F k) : OwnM B w' m vv vi :=
  ⟨own_upd h.votes hu (fun g hg => hd g (h.newv g hg)), own_upd h.items hu (fun g hg => hd g (h.newi g hg)), h.newv, h.newi, h.one⟩
theorem OwnM.mono {B C : Nat} {w : World} {m : Ms} {vv vi : Value} (h : OwnM B w m vv vi) (hc : C ≤ B) : OwnM C w m vv vi :=
  ⟨h.votes, h.items, fun j hj => Nat.le_trans hc (h.newv j hj), fun j hj => Nat.le_trans hc (h.newi j hj), h.one⟩

/-- What takes a part. -/
theorem tk_any (p : Pt) {w : World} {b g : Nat} {s : Rs} (hR : Rd w b s) (hs : RdOk s) (hg : Gone s) (m : Ms) (hM : Blk w g 34 (msCells m (.slice none 0 0) (.slice none 0 0))) (h1 : m.votes = []) (h2 : m.items = []) (hl : s.1.length ≤ 1000000) :
    Calls Try.prog (fTake p) #[.pointer (some ⟨b, 0, none⟩), .pointer (some ⟨g, 0, none⟩)] w fun e w' => e = .returned (.tuple #[]) ∧ ∃ vv vi, Rd w' b (ptTake (m, s) p).2 ∧ Blk w' g 34 (msCells (ptTake (m, s) p).1 vv vi) ∧ OwnM w.heap.size w' (ptTake (m, s) p).1 vv vi ∧ Upd (fun j => j = b ∨ j = g) w w' ∧ (p ≠ .votes ∧ p ≠ .items → vv = .slice none 0 0 ∧ vi = .slice none 0 0) := by
  have hnil : ∀ {w' : World} (q : Pt), q ≠ .votes → q ≠ .items → OwnM w.heap.size w' (ptTake (m, s) q).1 (.slice none 0 0) (.slice none 0 0) := fun {w'} q hv hi => OwnM.nil _ _ _ (by rw [take_votes hv]; exact h1) (by rw [take_items hi]; exact h2)
  cases p
  case whole => exact (wh_take hR hs m hM).mono fun e w' ⟨he, hr, hb, hu⟩ => ⟨he, _, _, hr, hb, hnil .whole (by simp) (by simp), hu, fun _ => ⟨rfl, rfl⟩⟩
  case name => exact (nm_take hR hs m hM).mono fun e w' ⟨he, hr, hb, hu⟩ => ⟨he, _, _, hr, hb, hnil .name (by simp) (by simp), hu, fun _ => ⟨rfl, rfl⟩⟩
  case reply => exact (rp_take hR hs m hM).mono fun e w' ⟨he, hr, hb, hu⟩ => ⟨he, _, _, hr, hb, hnil .reply (by simp) (by simp), hu, fun _ => ⟨rfl, rfl⟩⟩
  case node => exact (nd_take hR hs m hM).mono fun e w' ⟨he, hr, hb, hu⟩ => ⟨he, _, _, hr, hb, hnil .node (by simp) (by simp), hu, fun _ => ⟨rfl, rfl⟩⟩
  case byy => exact (by_take hR hs m hM).mono fun e w' ⟨he, hr, hb, hu⟩ => ⟨he, _, _, hr, hb, hnil .byy (by simp) (by simp), hu, fun _ => ⟨rfl, rfl⟩⟩
  case base => exact (bs_take hR hs m hM).mono fun e w' ⟨he, hr, hb, hu⟩ => ⟨he, _, _, hr, hb, hnil .base (by simp) (by simp), hu, fun _ => ⟨rfl, rfl⟩⟩
  case upto => exact (up_take hR hs m hM).mono fun e w' ⟨he, hr, hb, hu⟩ => ⟨he, _, _, hr, hb, hnil .upto (by simp) (by simp), hu, fun _ => ⟨rfl, rfl⟩⟩
  case slot => exact (up_take hR hs m hM).mono fun e w' ⟨he, hr, hb, hu⟩ => ⟨he, _, _, hr, hb, hnil .slot (by simp) (by simp), hu, fun _ => ⟨rfl, rfl⟩⟩
  case value => exact (va_take hR hs m hM).mono fun e w' ⟨he, hr, hb, hu⟩ => ⟨he, _, _, hr, hb, hnil .value (by simp) (by simp), hu, fun _ => ⟨rfl, rfl⟩⟩
  case votes => exact (vo_take hR hs hg m hM (by rw [h1]; exact World.ownsRow_nil _ _ _ _) (by rw [h1]; simp; omega)).mono fun e w' ⟨he, vv', hr, hb, ho, hu, hn⟩ => ⟨he, vv', _, hr, hb, ⟨ho, by show w'.ownsRow 0 49 2 _ m.items.length (m.items.flatMap itCells); rw [h2]; exact World.ownsRow_nil _ _ _ _, fun j hj => by
      rcases hn j hj with h | h
      · exact (no_own_nil j h).elim
      · exact h, fun j hj => (no_own_nil j hj).elim, .inr rfl⟩, hu.mono (fun i hi h => by
      rcases h with h | h | h
      · exact .inl h
      · exact .inr h
      · exact (no_own_nil i h).elim), fun h => absurd rfl h.1⟩
  case items => exact (it_take hR hs hg m hM (by rw [h2]; exact World.ownsRow_nil _ _ _ _) (by rw [h2]; simp; omega)).mono fun e w' ⟨he, vv', hr, hb, ho, hu, hn⟩ => ⟨he, _, vv', hr, hb, ⟨by show w'.ownsRow 0 47 4 _ m.votes.length (m.votes.flatMap vtCells); rw [h1]; exact World.ownsRow_nil _ _ _ _, ho, fun j hj => (no_own_nil j hj).elim, fun j hj => by
      rcases hn j hj with h | h
      · exact (no_own_nil j h).elim
      · exact h, .inl rfl⟩, hu.mono (fun i hi h => by
      rcases h with h | h | h
      · exact .inl h
      · exact .inr h
      · exact (no_own_nil i h).elim), fun h => absurd rfl h.2⟩

/-- Take's loop over the parts. -/
structure TkL (w3 : World) (b g : Nat) (kd : Int) (s : Rs) (n k : Nat) (wr : World) : Prop where
  st : ∃ (m : Ms) (s' : Rs) (vv vi : Value), ((ptsOf kd).take k).foldl ptTake (ms0 kd, s) = (m, s') ∧ Rd wr b s' ∧ RdOk s' ∧ Gone s' ∧ s'.1.length ≤ 65536 ∧ Blk wr g 34 (msCells m vv vi) ∧ OwnM w3.heap.size wr m vv vi ∧ WfM m ∧ TxtM m ∧ (k < n → vv = .slice none 0 0 ∧ vi = .slice none 0 0 ∧ m.votes = [] ∧ m.items = [])
  upd : Upd (fun j => j = b ∨ j = g) w3 wr
theorem tkL_step {w3 w5 w6 : World} {b g : Nat} {kd : Int} {s s' : Rs} {n k : Nat} {m : Ms} {vv vi : Value} {p : Pt} (hf : ((ptsOf kd).take k).foldl ptTake (ms0 kd, s) = (m, s')) (hp : (ptsOf kd)[k]? = some p) (hn : n = (ptsOf kd).length)
    (hs : RdOk s') (hg : Gone s') (hl : s'.1.length ≤ 65536) (hw : WfM m) (hx : TxtM m) (h1 : m.votes = []) (h2 : m.items = []) (h35 : Upd (fun j => j = b ∨ j = g) w3 w5)
    (hr : Rd w6 b (ptTake (m, s') p).2) (hb : Blk w6 g 34 (msCells (ptTake (m, s') p).1 vv vi)) (ho : OwnM w5.heap.size w6 (ptTake (m, s') p).1 vv vi) (hu : Upd (fun j => j = b ∨ j = g) w5 w6) (hv : p ≠ .votes ∧ p ≠ .items → vv = .slice none 0 0 ∧ vi = .slice none 0 0) : TkL w3 b g kd s n (k + 1) w6 := by
  have hwf := wf_take (p := p) hw hs hg (fun _ => h1) (fun _ => h2) (by omega)
  have hle := ptTake_le m s' p
  refine ⟨⟨(ptTake (m, s') p).1, (ptTake (m, s') p).2, vv, vi, ?_, hr, hwf.2, gone_take (x := (m, s')) hg p, by omega, hb, ho.mono h35.size, hwf.1, txt_take hx hs p, fun hk => ?_⟩, h35.trans hu (fun _ _ h => h)⟩
  · rw [take_snoc_ hp, List.foldl_append, hf]
    rfl
  · obtain ⟨q, hq⟩ : ∃ q, (ptsOf kd)[k + 1]? = some q := ⟨_, List.getElem?_eq_getElem (by omega)⟩
    have hpm : p ∈ (ptsOf kd).take (k + 1) := by rw [take_snoc_ hp]; simp
    have hno := pre_noT kd hq hpm
    obtain ⟨e1, e2⟩ := hv hno
    exact ⟨e1, e2, by rw [take_votes hno.1]; exact h1, by rw [take_items hno.2]; exact h2⟩

theorem Blk.setRow {w : World} {g : Nat} {t : TypeId} {old cs : Array Value} (h : Blk w g t old) : Blk (w.setRow g cs) g t cs := setRow_heap w g old cs t (0, 0) h
theorem Upd.setRow {F : Nat → Prop} {w wx : World} (h : Upd F w wx) {g : Nat} (hg : F g ∨ w.heap.size ≤ g) (cs : Array Value) : Upd F w (wx.setRow g cs) :=
  ⟨h.os, h.tape, h.output, by rw [setRow_size]; exact h.size, fun k hk hf => by
    rw [setRow_other _ _ _ _ (by
      rintro rfl
      rcases hg with h1 | h1
      · exact hf h1
      · omega)]
    exact h.block k hk hf⟩
theorem zc_one : (#[.int .u8 0, .int .u64 0, .int .u8 0, .int .u64 0, .int .u64 0, .int .u8 0, .string { data := #[] }, .slice none 0 0, .slice none 0 0, .int .u8 0, .int .u32 0, .int .u8 0, .string { data := #[] }, .string { data := #[] }, .string { data := #[] }, .int .u8 0, .int .u8 0, .string { data := #[] }] : Array Value).all (·.oneCell') = true := by simp [Value.oneCell']
theorem msCells_one (m : Ms) (Av Ai : Option Addr) (nv cv ni ci : Nat) : (msCells m (.slice Av nv cv) (.slice Ai ni ci)).all (·.oneCell') = true := by simp [msCells, Value.oneCell']
/-- What reading bytes tells: the message and the error, or the error alone. -/
def TakeR (w : World) (R : Ms × Int) (e : Ending) (w' : World) : Prop := ∃ vv vi, e = .returned (.tuple #[msV R.1 vv vi, .int .i64 R.2]) ∧ Upd (fun _ => False) w w' ∧ OwnM w.heap.size w' R.1 vv vi
theorem takeR_zero {w w' : World} {R : Ms × Int} {x : Int} (hR : R = (ms0 0, x)) (hu : Upd (fun _ => False) w w') : TakeR w R (.returned (.tuple #[.agg #[.int .u8 0, .int .u64 0, .int .u8 0, .int .u64 0, .int .u64 0, .int .u8 0, .string { data := #[] }, .slice none 0 0, .slice none 0 0, .int .u8 0, .int .u32 0, .int .u8 0, .string { data := #[] }, .string { data := #[] }, .string { data := #[] }, .int .u8 0, .int .u8 0, .string { data := #[] }], .int .i64 x])) w' := by
  subst hR
  exact ⟨.slice none 0 0, .slice none 0 0, rfl, hu, OwnM.nil _ _ _ rfl rfl⟩

set_option maxRecDepth 100000 in
set_option maxHeartbeats 8000000 in
theorem mtake_e1 {l ins : List Int} {n e0 : Int} {R : Ms × Int} {w : World} (HF : Hid (∀ wx : World, Calls Try.prog 15 #[.string (strOfNums l)] wx fun e w' => e = .returned (.tuple #[.string (strOfNums ins), .int .i64 n, .int .i64 e0]) ∧ Upd (fun _ => False) wx w'))
    (_hz : (strOfNums l).size = l.length) (he' : (e0 != 0) = true) (HRR : Hid (R = (ms0 0, e0))) : Calls Try.prog 8 #[.string (strOfNums l)] w (TakeR w R) := by
  go_enter Try.func8, Try.ntmps8
  go_wp2_with fail
  refine (HF.out _).mono ?_
  rintro e w1 ⟨rfl, hu1⟩
  have HU1 := Lib.hid hu1
  clear hu1
  have HRB : Hid (Blk w1 w.heap.size 34 #[.int .u8 0, .int .u64 0, .int .u8 0, .int .u64 0, .int .u64 0, .int .u8 0, .string { data := #[] }, .slice none 0 0, .slice none 0 0, .int .u8 0, .int .u32 0, .int .u8 0, .string { data := #[] }, .string { data := #[] }, .string { data := #[] }, .int .u8 0, .int .u8 0, .string { data := #[] }]) := (Blk.new w 34 #[.int .u8 0, .int .u64 0, .int .u8 0, .int .u64 0, .int .u64 0, .int .u8 0, .string { data := #[] }, .slice none 0 0, .slice none 0 0, .int .u8 0, .int .u32 0, .int .u8 0, .string { data := #[] }, .string { data := #[] }, .string { data := #[] }, .int .u8 0, .int .u8 0, .string { data := #[] }]).upd HU1.out id
  have HUW : Hid (Upd (fun _ => False) w w1) := ((Upd.refl _ _).alloc _).trans HU1.out (fun _ _ h => h)
  have hrow := HRB.out
  go_wp2_with (first | (refine wpList_store_row rfl 34 (.tmp 2) (.tmp 20) (by rfl) w.heap.size #[.int .u8 0, .int .u64 0, .int .u8 0, .int .u64 0, .int .u64 0, .int .u8 0, .string { data := #[] }, .slice none 0 0, .slice none 0 0, .int .u8 0, .int .u32 0, .int .u8 0, .string { data := #[] }, .string { data := #[] }, .string { data := #[] }, .int .u8 0, .int .u8 0, .string { data := #[] }] (by rfl) (by rfl) 34 _ hrow (by kernel_rfl) rfl zc_one ?_) | fail)
  have hl := load_msg (Blk.setRow (cs := #[.int .u8 0, .int .u64 0, .int .u8 0, .int .u64 0, .int .u64 0, .int .u8 0, .string { data := #[] }, .slice none 0 0, .slice none 0 0, .int .u8 0, .int .u32 0, .int .u8 0, .string { data := #[] }, .string { data := #[] }, .string { data := #[] }, .int .u8 0, .int .u8 0, .string { data := #[] }]) hrow) rfl
  simp [go_sem] at hl
  refine bodyPost_ret (v := .tuple #[.agg #[.int .u8 0, .int .u64 0, .int .u8 0, .int .u64 0, .int .u64 0, .int .u8 0, .string { data := #[] }, .slice none 0 0, .slice none 0 0, .int .u8 0, .int .u32 0, .int .u8 0, .string { data := #[] }, .string { data := #[] }, .string { data := #[] }, .int .u8 0, .int .u8 0, .string { data := #[] }], .int .i64 e0]) (by simp [results, Try.results8, go_sem, hl]) rfl ?_
  exact takeR_zero HRR.out (HUW.out.setRow (.inr (Nat.le_refl _)) _)
set_option maxRecDepth 100000 in
set_option maxHeartbeats 8000000 in
theorem mtake_e2 {l ins : List Int} {n : Int} {R : Ms × Int} {w : World} (HF : Hid (∀ wx : World, Calls Try.prog 15 #[.string (strOfNums l)] wx fun e w' => e = .returned (.tuple #[.string (strOfNums ins), .int .i64 n, .int .i64 0]) ∧ Upd (fun _ => False) wx w'))
    (hz : (strOfNums l).size = l.length) (hlt : n < (l.length : Int)) (HRR : Hid (R = (ms0 0, 4))) : Calls Try.prog 8 #[.string (strOfNums l)] w (TakeR w R) := by
  go_enter Try.func8, Try.ntmps8
  go_wp2_with fail
  refine (HF.out _).mono ?_
  rintro e w1 ⟨rfl, hu1⟩
  have HU1 := Lib.hid hu1
  clear hu1
  go_upto_region 5 with fail
  have HRB : Hid (Blk w1 w.heap.size 34 #[.int .u8 0, .int .u64 0, .int .u8 0, .int .u64 0, .int .u64 0, .int .u8 0, .string { data := #[] }, .slice none 0 0, .slice none 0 0, .int .u8 0, .int .u32 0, .int .u8 0, .string { data := #[] }, .string { data := #[] }, .string { data := #[] }, .int .u8 0, .int .u8 0, .string { data := #[] }]) := (Blk.new w 34 #[.int .u8 0, .int .u64 0, .int .u8 0, .int .u64 0, .int .u64 0, .int .u8 0, .string { data := #[] }, .slice none 0 0, .slice none 0 0, .int .u8 0, .int .u32 0, .int .u8 0, .string { data := #[] }, .string { data := #[] }, .string { data := #[] }, .int .u8 0, .int .u8 0, .string { data := #[] }]).upd HU1.out id
  have HUW : Hid (Upd (fun _ => False) w w1) := ((Upd.refl _ _).alloc _).trans HU1.out (fun _ _ h => h)
  have hrow := HRB.out
  go_wp2_with (first | (refine wpList_store_row rfl 34 (.tmp 2) (.tmp 27) (by rfl) w.heap.size #[.int .u8 0, .int .u64 0, .int .u8 0, .int .u64 0, .int .u64 0, .int .u8 0, .string { data := #[] }, .slice none 0 0, .slice none 0 0, .int .u8 0, .int .u32 0, .int .u8 0, .string { data := #[] }, .string { data := #[] }, .string { data := #[] }, .int .u8 0, .int .u8 0, .string { data := #[] }] (by rfl) (by rfl) 34 _ hrow (by kernel_rfl) rfl zc_one ?_) | fail)
  have hl := load_msg (Blk.setRow (cs := #[.int .u8 0, .int .u64 0, .int .u8 0, .int .u64 0, .int .u64 0, .int .u8 0, .string { data := #[] }, .slice none 0 0, .slice none 0 0, .int .u8 0, .int .u32 0, .int .u8 0, .string { data := #[] }, .string { data := #[] }, .string { data := #[] }, .int .u8 0, .int .u8 0, .string { data := #[] }]) hrow) rfl
  simp [go_sem] at hl
  refine bodyPost_ret (v := .tuple #[.agg #[.int .u8 0, .int .u64 0, .int .u8 0, .int .u64 0, .int .u64 0, .int .u8 0, .string { data := #[] }, .slice none 0 0, .slice none 0 0, .int .u8 0, .int .u32 0, .int .u8 0, .string { data := #[] }, .string { data := #[] }, .string { data := #[] }, .int .u8 0, .int .u8 0, .string { data := #[] }], .int .i64 4]) (by simp [results, Try.results8, go_sem, hl]) rfl ?_
  exact takeR_zero HRR.out (HUW.out.setRow (.inr (Nat.le_refl _)) _)
end Go.Proofs.Ytaielcokfpodaaa
