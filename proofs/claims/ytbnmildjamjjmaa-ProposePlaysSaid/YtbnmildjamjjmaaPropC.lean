/-
  The keys of a desk's map, as maps.Keys yields them and slices.Collect gathers them: each once, in some order. Conditions: none.
-/
import Derived.Test.YtbnmildjamjjmaaPropA
import Derived.Test.YtbnmildjamjjmaaRange
import Derived.Sort.MapsRangeIn
namespace Go.Proofs.Ytbnmildjamjjmaa
open Go.RowKit Go.Maps Go.Shelf

attribute [local go_sem] Oper.semAt_some

theorem keyOf_u64 {key : Value} {kl : Lit} (h : keyOf Try.prog 28 key = some kl) : ∃ x : Int, key = .int .u64 x ∧ kl = .int .u64 x ∧ (Lit.int .u64 x).wf = true := by
  cases key <;> simp [keyOf, Try.underlying28, mapKey] at h
  rename_i q a
  obtain ⟨⟨rfl, hw⟩, rfl⟩ := h
  exact ⟨a, rfl, rfl, hw⟩

/-- The keys that have come so far. -/
def Come (M : List PO) (left : Lit → Bool) (ss : List Int) : Prop :=
  ss.Nodup ∧ (∀ x ∈ ss, (Lit.int .u64 x).wf = true) ∧ ∀ x, (Lit.int .u64 x).wf = true → (x ∈ ss ↔ M.any (fun o => o.slot == x) = true ∧ left (.int .u64 x) = false)

theorem come_start {D : DataW PO} {M : List PO} (h : Reads D M) : Come M (Maps.has D) [] :=
  ⟨List.nodup_nil, by simp, fun x hx => by rw [h.has x hx]; cases M.any (fun o => o.slot == x) <;> simp⟩
theorem come_step {D : DataW PO} {M : List PO} (h : Reads D M) {left : Lit → Bool} {ss : List Int} (hc : Come M left ss) {x : Int} (hw : (Lit.int .u64 x).wf = true) (hlk : left (.int .u64 x) = true) {y : DataW PO} (hat : ∀ zd, D.atKey (.int .u64 x) zd = y) :
    Come M (fun z => left z && !z.sameKey (.int .u64 x)) (ss ++ [x]) := by
  obtain ⟨h1, h2, h3⟩ := hc
  have hh : M.any (fun o => o.slot == x) = true := by rw [← h.has x hw]; exact has_true_of_atKey hat
  have hnot : x ∉ ss := fun hx => by have := ((h3 x hw).1 hx).2; rw [hlk] at this; cases this
  refine ⟨List.nodup_append.2 ⟨h1, by simp, fun a ha b hb e => ?_⟩, fun z hz => ?_, fun z hz => ?_⟩
  · rw [List.mem_singleton] at hb
    subst hb; subst e
    exact hnot ha
  · rcases List.mem_append.1 hz with hz | hz
    · exact h2 z hz
    · rw [List.mem_singleton] at hz; subst hz; exact hw
  · rw [List.mem_append, List.mem_singleton, h3 z hz]
    by_cases e : z = x
    · subst e
      simp [hh, Lit.sameKey]
    · have e2 : ∀ l : Lit, l = Lit.int .u64 z → l.sameKey (.int .u64 x) = false := fun l hl => by
        subst hl
        exact sameKey_ne (by simpa using e)
      simp [e2 _ rfl, e]
theorem come_end {M : List PO} (hr : Rising M) {left : Lit → Bool} {ss : List Int} (hc : Come M left ss) (hl : ∀ kl, left kl = false) : ss.Perm (M.map PO.slot) := by
  obtain ⟨h1, h2, h3⟩ := hc
  refine (List.perm_ext_iff_of_nodup h1 ?_).2 fun x => ?_
  · have : (M.map PO.slot).Pairwise (· < ·) := List.pairwise_map.2 hr.1
    exact this.imp (fun h e => by omega)
  · constructor
    · intro hx
      obtain ⟨o, ho, e⟩ := any_slot.1 ((h3 x (h2 x hx)).1 hx).1
      exact List.mem_map.2 ⟨o, ho, e⟩
    · intro hx
      obtain ⟨o, ho, rfl⟩ := List.mem_map.1 hx
      exact (h3 _ (hr.2 o ho)).2 ⟨any_slot.2 ⟨o, ho, rfl⟩, hl _⟩

theorem keysO_any (mb : Option Nat) (w : World) :
    Calls Try.prog 33 #[.map mb] w fun e w' => e = .returned (.func (.func 39) #[] #[.pointer (some ⟨w.heap.size, 0, none⟩)]) ∧ w.alloc (.cells #[.map mb] 64) = w' := by
  go_enter Try.func33, Try.ntmps33
  go_wp2
  go_ret
  exact ⟨rfl, rfl⟩

set_option maxRecDepth 100000 in
set_option maxHeartbeats 1000000 in
theorem keysO1_in (n : Nat) (hn : 1 ≤ n) (l Bm b nn : Nat) (D : DataW PO) (M : List PO) (hR : Reads D M) (hr : Rising M) (J Jx : List Int → World → Prop)
    (hY : ∀ pre x W, J pre W → pre.length < M.length → YieldAt Fence.wide (n - 1) Try.prog l #[.int .u64 x] W fun e W' =>
      (e = .returned (.bool true) ∧ J (pre ++ [x]) W' ∧ KeepsWalks W W') ∨ (e = .returned (.bool false) ∧ Jx (pre ++ [x]) W'))
    (W : World) (hJ : AbidesFrom W.heap.size J) (hm : W.cell? ⟨Bm, 0, none⟩ = some (.map (some b))) (hown : W.ownsMap Try.prog 28 oR b nn D) (h0 : J [] W) :
    CallsIn Fence.wide n Try.prog 39 #[.func (.yield l) #[] #[], .pointer (some ⟨Bm, 0, none⟩)] W fun e W' => (∃ v, e = .returned v) ∧
      ((∃ ss : List Int, ss.Perm (M.map PO.slot) ∧ J ss W') ∨ (∃ pre : List Int, True ∧ Jx pre W')) := by
  have HR := Lib.hid hR
  have HRI := Lib.hid hr
  have hsz := hR.size
  have HSZ := Lib.hid hsz
  have HY := Lib.hid hY
  have HJ := Lib.hid hJ
  clear hR hr hsz hY hJ
  have mixed : Try.prog.follows .mixedOrders = true := by kernel_rfl
  refine callsIn_of_wp Try.func39 rfl trivial ?_ rfl
  simp only [Try.ntmps39, List.size_toArray, List.length_cons, List.length_nil, Nat.reduceAdd, Nat.reduceSub, Array.replicate_succ, Array.replicate_zero, List.push_toArray, List.append_toArray, List.nil_append, List.cons_append]
  gi_wp2_with (gi_at_range; refine wpListIn_range_own _ rfl _ 64 rfl 28 63 keyedU Try.underlying64 _ b nn _ rfl hown ?_; intro w0 hrg0 hg0 hs0)
  go_frame
  gi_loopw [3] (fun _ wr => ∃ (left : Lit → Bool) (cnt : Nat) (ss : List Int), wr.ranges Try.prog 28 oR b W.heap.size nn D left cnt ∧ ss.length + cnt ≤ Maps.size D ∧ Come M left ss ∧ J ss wr)
    (fun _ wr => wr.rangeLeft b W.heap.size)
  case atStart =>
    exact ⟨_, _, [], hrg0, by simp, come_start HR.out, HJ.out [] W w0 none h0 hg0 (fun r e => by cases e)⟩
  case round =>
    obtain ⟨left, cnt, ss, hrg, hcs, hC, hJs⟩ := hrel
    gi_wp2_with (gi_at_next; refine wpListIn_next_ranges _ rfl _ rfl 28 keyedU oR (Value.int .u64) id (fun key kl hk => by obtain ⟨x, hx, _⟩ := keyOf_u64 hk; exact ⟨x, hx⟩) (fun v _ _ => ⟨v, rfl⟩) b W.heap.size nn _ _ _ rfl hrg ?_ ?_)
    · intro hc0 hl0
      gi_wp2
      go_end0
      exact ⟨⟨_, rfl⟩, .inl ⟨ss, come_end HRI.out hC hl0, hJs⟩⟩
    · intro x c kl yd yp w2 cnt2 hkey hlk hv hat hrg2 hlt hg2 hs2 hen
      obtain ⟨x', ex, rfl, hwx⟩ := keyOf_u64 hkey
      simp only [Value.int.injEq, true_and] at ex
      subst ex
      have hJ2 : J ss w2 := HJ.out ss wr w2 (some W.heap.size) hJs hg2 (fun r e => by cases e; exact ⟨Nat.le_refl _, hrg.iter_walk⟩)
      obtain ⟨fn, tmps, assign, body, hy, hRd⟩ := HY.out ss x w2 hJ2 (by rw [← HSZ.out]; omega)
      have hC2 := come_step HR.out hC hwx hlk hat
      clear hs2
      gi_wp2
      refine hRd.mono ?_
      rintro e W3 (⟨rfl, hJ3, hk3⟩ | ⟨rfl, hJx3⟩)
      · gi_wp2
        have hrg3 := hrg2.of_walks hk3
        go_roundw
        case rel => exact ⟨_, cnt2, ss ++ [x], hrg3, by simp; omega, hC2, hJ3⟩
        case measure => rw [hrg3.left_eq, hrg.left_eq]; exact hlt
      · gi_wp2
        refine bodyPost_ret (results_none rfl _ _ _) rfl ?_
        exact ⟨⟨_, rfl⟩, .inr ⟨ss ++ [x], trivial, hJx3⟩⟩

theorem infoU64 : (Try.prog.info? 28).map (fun i => (i.zero, i.size, i.bytes)) = some (some (.int .u64 0), 1, 8) := by kernel_rfl

section
variable {A B : World} {row : Option Nat} {g : Nat} {t e : TypeId} {cs : Array Value} {v : Value} {base size n : Nat} {xs : List Value}
theorem blk_nc (h : Blk A g t cs) (hg : A.grownBy B row) (hr : ∀ r, row = some r → ∃ o : Obj, A.heap[r]? = some o ∧ o.isCells = false) : Blk B g t cs :=
  h.grown hg (fun e => by
    obtain ⟨o, ho, hc⟩ := hr g e.symm
    unfold Blk at h
    rw [h] at ho
    cases ho
    cases hc)
theorem row_nc (h : A.ownsRow base e size v n xs) (hg : A.grownBy B row) (hr : ∀ r, row = some r → ∃ o : Obj, A.heap[r]? = some o ∧ o.isCells = false) : B.ownsRow base e size v n xs := by
  refine ⟨h.1, ?_⟩
  rcases h.2 with hn | ⟨g, cap, cur, rfl, hb, hgg, rest⟩
  · exact .inl hn
  · exact .inr ⟨g, cap, cur, rfl, hb, (hg.block g (Array.getElem?_eq_some_iff.1 hgg).1 (fun e => by
      obtain ⟨o, ho, hc⟩ := hr g e.symm
      rw [hgg] at ho
      cases ho
      cases hc)).trans hgg, rest⟩
end

theorem keepsOthers_grown {W W' : World} {v : Value} {base : Nat} {e : TypeId} {size n : Nat} {xs : List Value} (hg : W.grownBy W' v.ownBlock) (h : W.ownsRow base e size v n xs) : KeepsOthers W W' :=
  KeepsOthers.of_grownBy hg (fun j o hj ho => by
    rcases h.2 with ⟨rfl, _⟩ | ⟨g, cap, cur, rfl, hb, hgg, rest⟩
    · simp [Value.ownBlock] at hj
    · simp [Value.ownBlock] at hj
      subst hj
      rw [hgg] at ho
      cases ho
      rfl)

theorem row_shape {w : World} {base : Nat} {e : TypeId} {size : Nat} {v : Value} {n : Nat} {xs : List Value} (h : w.ownsRow base e size v n xs) : ∃ A c, v = .slice A n c ∧ n ≤ c ∧ c ≤ maxLen := by
  rcases h.2 with ⟨rfl, rfl⟩ | ⟨g, cap, cur, rfl, _, _, h1, h2, _⟩
  · exact ⟨none, 0, rfl, Nat.le_refl _, by simp [maxLen]⟩
  · exact ⟨_, _, rfl, h1, h2⟩

/-- What AppendSeq has gathered. -/
def ApI (w : World) (bx : Nat) (pre : List Int) (W : World) : Prop :=
  ∃ v, Blk W bx 74 #[v] ∧ W.ownsRow w.heap.size 28 1 v pre.length (pre.map (Value.int .u64)) ∧ Below w.heap.size w W
theorem apI_own (w : World) (bx B : Nat) (hB : w.heap.size ≤ B) : OwnFrom B (ApI w bx) := fun pre W W' row h hg hr => by
  obtain ⟨v, hb, ho, hbe⟩ := h
  exact ⟨v, blk_nc hb hg (fun r e => (hr r e).2), row_nc ho hg (fun r e => (hr r e).2), hbe.grown hg hbe.size (fun j e => Nat.le_trans hB (hr j e).1)⟩

set_option maxRecDepth 100000 in
set_option maxHeartbeats 2000000 in
theorem appSeq_in {w : World} {Bm b nn : Nat} {D : DataW PO} {M : List PO} (hR : Reads D M) (hr : Rising M) (hl : M.length ≤ 100000) (hBm : Blk w Bm 64 #[.map (some b)]) (hown : w.ownsMap Try.prog 28 oR b nn D) :
    CallsIn Fence.wide 5 Try.prog 40 #[.slice none 0 0, .func (.func 39) #[] #[.pointer (some ⟨Bm, 0, none⟩)]] w fun e w' => ∃ (v : Value) (ss : List Int), e = .returned v ∧ ss.Perm (M.map PO.slot) ∧
      w'.ownsRow w.heap.size 28 1 v ss.length (ss.map (Value.int .u64)) ∧ Below w.heap.size w w' := by
  obtain ⟨i0, hi0, hz0, hz1, hz2⟩ := info_parts infoU64
  have HR := Lib.hid hR
  have HRI := Lib.hid hr
  have HB := Lib.hid hBm
  have HO := Lib.hid hown
  clear hR hr hBm hown
  refine callsIn_of_wp_marks Try.func40 rfl trivial ?_ rfl
  simp only [Try.ntmps40, List.size_toArray, List.length_cons, List.length_nil, Nat.reduceAdd, Nat.reduceSub, Array.replicate_succ, Array.replicate_zero, List.push_toArray, List.append_toArray, List.nil_append, List.cons_append]
  gi_wp2
  obtain ⟨W0, hW0⟩ : ∃ W0, W0 = w.alloc (.cells #[.slice none 0 0] 74) := ⟨_, rfl⟩
  have hsz : W0.heap.size = w.heap.size + 1 := by rw [hW0]; simp
  have hU : Below w.heap.size w W0 := by rw [hW0]; exact (Below.refl _ _).alloc (Nat.le_refl _) _
  have e0 : Blk W0 w.heap.size 74 #[.slice none 0 0] := by rw [hW0]; exact Blk.new _ _ _
  have e1 : Blk W0 Bm 64 #[.map (some b)] := by rw [hW0]; exact HB.out.alloc _
  have e2 : W0.ownsMap Try.prog 28 oR b nn D := by rw [hW0]; exact HO.out.alloc _
  rw [← hW0]
  clear hW0
  refine wpIn_rangeFunc_ownF rfl (by omega) (gf := 39) (lb := #[.pointer (some ⟨Bm, 0, none⟩)]) rfl trivial (enters_of Try.func39 (by kernel_rfl) rfl)
    (encs := fun x : Int => #[.int .u64 x]) (Kp := KeepsWalks) (S := fun ss => ss.Perm (M.map PO.slot)) (Sp := fun _ => True) (N := M.length) (w0 := W0)
    (fun l J Jx W hW hJ _ hY h0 => keysO1_in 4 (by omega) l Bm b nn D M HR.out HRI.out J Jx hY W hJ ((e1.below hW e1.lt).cell 0) (owns_upd e2 (Upd.of_below (F := fun _ => False) hW) id) h0)
    (fun h k => h.trans k) (fun W l o o' hl h h1 hw => walksK_b W l o o' hl h h1 hw) (Below.refl _ _) (fun _ => rfl)
    (ApI w w.heap.size) (fun _ _ _ => False)
    (apI_own w w.heap.size _ (by omega)) (fun _ _ _ _ _ hs _ _ => hs)
    ⟨_, e0, ⟨rfl, .inl ⟨rfl, rfl⟩⟩, hU⟩
    (fun x => { tmps := #[.slice none 0 0, .func (.func 39) #[] #[.pointer (some ⟨Bm, 0, none⟩)], .pointer (some ⟨w.heap.size, 0, none⟩), undef, .slice none 0 0, .int .u64 x, .func (.func 39) #[] #[.pointer (some ⟨Bm, 0, none⟩)], .int .u64 x, undef, undef, undef, undef, undef], defers := [] }) ?assign ?body ?done ?stop
  case assign =>
    intro l x W K hK
    gi_wp2
    exact hK
  case body =>
    rintro l pre x W ⟨v, hb, ho, hbe⟩ hlen
    have hle := ho.1
    have q0 : W.cell? ⟨w.heap.size, 0, none⟩ = some v := hb.cell 0
    have HBL := Lib.hid hb
    have HBE := Lib.hid hbe
    have hws := hbe.size
    clear hb
    gi_wp2_with (gi_at_builtin; refine wpListIn_append_own_at _ rfl _ _ 74 rfl w.heap.size 28 i0 (.int .u64 0) 1 8 Try.underlying74 hi0 hz0 hz1 hz2 rfl (by decide) _ _ _ rfl (ho.alloc _) ⟨W.heap.size, 0, none⟩ 1 1 [.int .u64 x] rfl rfl (cell_one_new _ _ _) (ints_oneCell .u64 [x]) (by unfold maxLen; omega) (by omega) (by simp; omega) ?_)
    intro v' w1 hown' hg1 _ hat
    obtain ⟨A', c', rfl, _, _⟩ := row_shape hown'
    have hb1 : Blk w1 w.heap.size 74 #[v] := (HBL.out.alloc _).grown hg1 (fun e => own_blk_ne (ho.alloc (.cells #[.int .u64 x] 28)) (HBL.out.alloc (.cells #[.int .u64 x] 28)) (by decide) e.symm)
    have q1 : w1.cell? ⟨w.heap.size, 0, none⟩ = some v := hb1.cell 0
    have q2 : w1.frozen? ⟨w.heap.size, 0, none⟩ = false := hb1.frozen 0
    have HB1 := Lib.hid hb1
    have hko := keepsOthers_grown hg1 (ho.alloc (.cells #[.int .u64 x] 28))
    have HKO := Lib.hid hko
    have hbe1 : Below w.heap.size w w1 := (hbe.alloc hbe.size _).grown hg1 (by simp; omega) (fun j hj => by have := (ho.lt j hj).1; omega)
    have HE1 := Lib.hid hbe1
    have HO1 := Lib.hid hown'
    have HN1 := own_blk_ne hown' hb1 (by decide)
    have HNN := Lib.hid HN1
    clear hown' hg1 hat hb1 hko hbe1 HN1 ho hbe
    gi_wp2
    have hfin : ApI w w.heap.size (pre ++ [x]) (w1.setCell ⟨w.heap.size, 0, none⟩ (.slice A' (pre.length + 1) c')) := by
      refine ⟨_, by simpa using HB1.out.set_ 0 (.slice A' (pre.length + 1) c'), ?_, HE1.out.setCell (Nat.le_refl _) _⟩
      have := own_upd HO1.out (F := fun k => k = w.heap.size) (Upd.setCell (F := fun k => k = w.heap.size) (Upd.refl _ _) (p := ⟨w.heap.size, 0, none⟩) (.inl rfl) (.slice A' (pre.length + 1) c')) (fun g hg h => HNN.out (by rw [hg, h]))
      rw [List.map_append, List.length_append]
      exact this
    have hko2 : KeepsOthers W (w1.setCell ⟨w.heap.size, 0, none⟩ (.slice A' (pre.length + 1) c')) := ((KeepsOthers.alloc W _).trans HKO.out).trans (KeepsOthers.setCell _ _ _)
    exact ⟨hko2, hko2.walks, hfin⟩
  case done =>
    rintro D ys W hD hp ⟨v, hb, ho, hbe⟩ hK
    have q0 : W.cell? ⟨w.heap.size, 0, none⟩ = some v := hb.cell 0
    gi_wp2
    refine ⟨by simp, .inl ⟨_, _, rfl, run_takeDeferred hK, ?_⟩⟩
    refine ⟨_, results_tmp rfl _ _ _, ?_⟩
    have hgr := grownBy_putObj' W D (.deferred none)
    exact ⟨v, ys, rfl, hp, row_nc ho hgr (fun r e => by cases e; exact ⟨_, hK, rfl⟩), hbe.grown hgr hbe.size (fun j e => by cases e; omega)⟩
  case stop =>
    rintro D c pre W _ _ h _
    exact h.elim

theorem collect_in {w : World} {Bm b nn : Nat} {D : DataW PO} {M : List PO} (hR : Reads D M) (hr : Rising M) (hl : M.length ≤ 100000) (hBm : Blk w Bm 64 #[.map (some b)]) (hown : w.ownsMap Try.prog 28 oR b nn D) :
    Calls Try.prog 37 #[.func (.func 39) #[] #[.pointer (some ⟨Bm, 0, none⟩)]] w fun e w' => ∃ (v : Value) (ss : List Int), e = .returned v ∧ ss.Perm (M.map PO.slot) ∧
      w'.ownsRow w.heap.size 28 1 v ss.length (ss.map (Value.int .u64)) ∧ Below w.heap.size w w' := by
  have HA := Lib.hid ((callsIn_wide (n := 5)).1 (appSeq_in hR hr hl hBm hown))
  clear hR hr hBm hown
  go_enter Try.func37, Try.ntmps37
  go_wp2_with fail
  refine HA.out.mono ?_
  rintro e w' ⟨v, ss, rfl, hp, ho, hbe⟩
  have HP := Lib.hid hp
  have HO := Lib.hid ho
  have HB := Lib.hid hbe
  clear hp ho hbe
  go_wp2_with fail
  go_ret
  exact ⟨v, ss, rfl, HP.out, HO.out, HB.out⟩

end Go.Proofs.Ytbnmildjamjjmaa
