/-
  The reference desk: Voted. Conditions: at most 1000 open slots, at most 900 nodes in each list.
-/
import Derived.Test.YtbnmildjamjjmaaPlayP
import Derived.Test.YtbnmildjamjjmaaRefClose
import Derived.Deep.RegionHeld3
namespace Go.Proofs.Ytbnmildjamjjmaa
open Go.RowKit

theorem flat4_set : ∀ (L : List RX) (k : Nat) (_hk : k < L.length) (x : RX), ((((L.flatMap xCells).set (k * 4) (.int .u64 x.slot)).set (k * 4 + 1) (.string x.val)).set (k * 4 + 2) x.vc).set (k * 4 + 3) x.vh = (L.set k x).flatMap xCells
  | y :: L, 0, _, x => by simp [xCells]
  | y :: L, k + 1, hk, x => by
    have ih := flat4_set L k (by simpa using hk) x
    simp only [List.set_cons_succ, List.flatMap_cons]
    rw [← ih, show (k + 1) * 4 = k * 4 + 4 by omega]
    simp [xCells]

theorem votedX_found {P : List PX} {n s : Int} {k : Nat} {x : PX} (hx : P[k]? = some x) (h1 : ∀ j y, j < k → P[j]? = some y → decX n s y = false) (hd : decX n s x = true) : votedX P n s = (closeX P s, (s, x.val), true) := by
  have hk : k < P.length := (List.getElem?_eq_some_iff.1 hx).1
  have hf : P.find? (decX n s) = some x := by
    rw [List.find?_eq_some_iff_append]
    refine ⟨hd, P.take k, P.drop (k + 1), ?_, fun a ha => ?_⟩
    · have e : P[k] = x := (List.getElem?_eq_some_iff.1 hx).2
      rw [← e, List.getElem_cons_drop, List.take_append_drop]
    · obtain ⟨j, hj, e⟩ := List.mem_iff_getElem.1 ha
      rw [List.length_take] at hj
      rw [List.getElem_take] at e
      rw [h1 j a (by omega) (by rw [← e]; exact List.getElem?_eq_getElem _)]
      rfl
  unfold votedX
  rw [hf]
theorem votedX_none {P : List PX} {n s : Int} (h1 : ∀ y ∈ P, decX n s y = false) : votedX P n s = (P.map (stepX n s), (0, ByteArray.empty), false) := by
  have hf : P.find? (decX n s) = none := List.find?_eq_none.2 fun y hy h => by rw [h1 y hy] at h; cases h
  unfold votedX
  rw [hf]

/-- The copy of the open slots that Voted makes, when k of them are done. -/
structure VInv (b : Nat) (W1 : World) (G : Nat → Prop) (v : Value) (L : List RX) (n s : Int) (k : Nat) (Lk : List RX) (wr : World) : Prop where
  hG : ∀ g, G g → g < b
  ho : ∀ g, v.ownBlock = some g → b + 3 ≤ g ∧ g < W1.heap.size
  hb : b + 3 ≤ W1.heap.size
  len : Lk.length = L.length
  own : wr.ownsRow 0 69 4 v L.length (Lk.flatMap xCells)
  upd : Upd (fun g => v.ownBlock = some g) W1 wr
  done : ∀ j, j < k → (Lk[j]?).map RX.px = (L[j]?).map (fun x => stepX n s x.px)
  rest : ∀ j, k ≤ j → Lk[j]? = L[j]?
  sl : ∀ x ∈ Lk, Sl wr (fun g => G g ∨ (W1.heap.size ≤ g ∧ g < wr.heap.size)) 1 x.vc x.cfg.length (x.cfg.map (Value.int .u8)) ∧ Sl wr (fun g => G g ∨ (W1.heap.size ≤ g ∧ g < wr.heap.size)) 1 x.vh x.who.length (x.who.map (Value.int .u8))
  no : ∀ j x, j < k → L[j]? = some x → decX n s x.px = false

section
variable {b : Nat} {W1 : World} {G : Nat → Prop} {v : Value} {L : List RX} {n s : Int} {k : Nat} {Lk : List RX} {wr w' : World}
theorem VInv.still (h : VInv b W1 G v L n s k Lk wr) (hu : Upd (fun _ => False) wr w') : VInv b W1 G v L n s k Lk w' := by
  have hz := hu.size
  exact ⟨h.hG, h.ho, h.hb, h.len, own_upd h.own hu (fun _ _ h => h), h.upd.trans hu (fun _ _ h => h.elim), h.done, h.rest, fun x hx => ⟨((h.sl x hx).1.upd hu (fun _ _ h => h)).more (fun g hg => hg.imp id (fun h => by omega)), ((h.sl x hx).2.upd hu (fun _ _ h => h)).more (fun g hg => hg.imp id (fun h => by omega))⟩, h.no⟩
theorem VInv.skip (h : VInv b W1 G v L n s k Lk wr) {x : RX} (hx : L[k]? = some x) (hh : hitX n s x.px = false) : VInv b W1 G v L n s (k + 1) Lk wr := by
  refine ⟨h.hG, h.ho, h.hb, h.len, h.own, h.upd, fun j hj => ?_, fun j hj => h.rest j (by omega), h.sl, fun j y hj hy => ?_⟩
  · by_cases e : j < k
    · exact h.done j e
    · obtain rfl : j = k := by omega
      rw [h.rest j (Nat.le_refl _), hx]
      simp [stepX, hh]
  · by_cases e : j < k
    · exact h.no j y e hy
    · obtain rfl : j = k := by omega
      rw [hx] at hy
      cases hy
      unfold decX
      rw [hh]; rfl
theorem VInv.store (h : VInv b W1 G v L n s k Lk wr) {x x' : RX} (hx : L[k]? = some x) {g c : Nat} (hv : v = .slice (some ⟨g, 0, none⟩) L.length c) (hu : Upd (fun _ => False) wr w') (hpx : x'.px = stepX n s x.px) (hno : decX n s x.px = false)
    (hc : Sl w' (fun g => G g ∨ (W1.heap.size ≤ g ∧ g < w'.heap.size)) 1 x'.vc x'.cfg.length (x'.cfg.map (Value.int .u8)) ∧ Sl w' (fun g => G g ∨ (W1.heap.size ≤ g ∧ g < w'.heap.size)) 1 x'.vh x'.who.length (x'.who.map (Value.int .u8))) :
    VInv b W1 G v L n s (k + 1) (Lk.set k x') ((((w'.setCell ⟨g, k * 4, none⟩ (.int .u64 x'.slot)).setCell ⟨g, k * 4 + 1, none⟩ (.string x'.val)).setCell ⟨g, k * 4 + 2, none⟩ x'.vc).setCell ⟨g, k * 4 + 3, none⟩ x'.vh) := by
  have h' := h.still hu
  have hk : k < Lk.length := by rw [h.len]; exact (List.getElem?_eq_some_iff.1 hx).1
  subst hv
  have s1 := (((h'.own.stored (k * 4) (.int .u64 x'.slot)).1.stored (k * 4 + 1) (.string x'.val)).1.stored (k * 4 + 2) x'.vc).1.stored (k * 4 + 3) x'.vh
  have hus : Upd (fun j => j = g) w' ((((w'.setCell ⟨g, k * 4, none⟩ (.int .u64 x'.slot)).setCell ⟨g, k * 4 + 1, none⟩ (.string x'.val)).setCell ⟨g, k * 4 + 2, none⟩ x'.vc).setCell ⟨g, k * 4 + 3, none⟩ x'.vh) :=
    Upd.setCell (F := fun j => j = g) (Upd.setCell (F := fun j => j = g) (Upd.setCell (F := fun j => j = g) (Upd.setCell (F := fun j => j = g) (Upd.refl _ _) (p := ⟨g, k * 4, none⟩) (.inl rfl) _) (p := ⟨g, k * 4 + 1, none⟩) (.inl rfl) _) (p := ⟨g, k * 4 + 2, none⟩) (.inl rfl) _) (p := ⟨g, k * 4 + 3, none⟩) (.inl rfl) _
  have hog := h.ho g rfl
  have hz := hus.size
  have hkeep : ∀ {y : Value} {m : Nat} {ys : List Value}, Sl w' (fun g => G g ∨ (W1.heap.size ≤ g ∧ g < w'.heap.size)) 1 y m ys → Sl ((((w'.setCell ⟨g, k * 4, none⟩ (.int .u64 x'.slot)).setCell ⟨g, k * 4 + 1, none⟩ (.string x'.val)).setCell ⟨g, k * 4 + 2, none⟩ x'.vc).setCell ⟨g, k * 4 + 3, none⟩ x'.vh) (fun j => G j ∨ (W1.heap.size ≤ j ∧ j < ((((w'.setCell ⟨g, k * 4, none⟩ (.int .u64 x'.slot)).setCell ⟨g, k * 4 + 1, none⟩ (.string x'.val)).setCell ⟨g, k * 4 + 2, none⟩ x'.vc).setCell ⟨g, k * 4 + 3, none⟩ x'.vh).heap.size)) 1 y m ys := fun hs =>
    (hs.upd hus (fun j hj e => by
      subst e
      rcases hj with hj | hj
      · have := h.hG j hj; omega
      · omega)).more (fun j hj => hj.imp id (fun h => by omega))
  refine ⟨h.hG, h.ho, h.hb, by rw [List.length_set]; exact h.len, ?_, h'.upd.trans hus (fun j _ e => by subst e; rfl), fun j hj => ?_, fun j hj => ?_, fun y hy => ?_, fun j y hj hy => ?_⟩
  · have := s1.1
    rw [flat4_set Lk k hk x'] at this
    exact this
  · by_cases e : j < k
    · rw [List.getElem?_set_ne (by omega)]
      exact h.done j e
    · obtain rfl : j = k := by omega
      rw [List.getElem?_set_self hk, hx]
      simp [hpx]
  · rw [List.getElem?_set_ne (by omega)]
    exact h.rest j (by omega)
  · rcases List.mem_or_eq_of_mem_set hy with hy | rfl
    · exact ⟨hkeep (h'.sl y hy).1, hkeep (h'.sl y hy).2⟩
    · exact ⟨hkeep hc.1, hkeep hc.2⟩
  · by_cases e : j < k
    · exact h.no j y e hy
    · obtain rfl : j = k := by omega
      rw [hx] at hy
      cases hy
      exact hno
theorem VInv.end_ (h : VInv b W1 G v L n s k Lk wr) (hk : L.length ≤ k) : Lk.map RX.px = (votedX (L.map RX.px) n s).1 ∧ (votedX (L.map RX.px) n s).2 = ((0, ByteArray.empty), false) := by
  have hn : ∀ y ∈ L.map RX.px, decX n s y = false := fun y hy => by
    obtain ⟨x, hx, rfl⟩ := List.mem_map.1 hy
    obtain ⟨j, hj, e⟩ := List.mem_iff_getElem.1 hx
    exact h.no j x (by omega) (by rw [← e]; exact List.getElem?_eq_getElem _)
  rw [votedX_none hn]
  refine ⟨?_, rfl⟩
  rw [List.map_map]
  refine List.ext_getElem? fun j => ?_
  rw [List.getElem?_map, List.getElem?_map]
  by_cases e : j < k
  · rw [h.done j e]; rfl
  · rw [List.getElem?_eq_none (by rw [h.len]; omega), List.getElem?_eq_none (by omega)]; rfl
theorem VInv.found (h : VInv b W1 G v L n s k Lk wr) {x : RX} (hx : L[k]? = some x) (hd : decX n s x.px = true) : votedX (L.map RX.px) n s = (closeX (L.map RX.px) s, (s, x.val), true) := by
  refine votedX_found (k := k) (x := x.px) (by rw [List.getElem?_map, hx]; rfl) (fun j y hj hy => ?_) hd
  rw [List.getElem?_map] at hy
  cases hq : L[j]? with
  | none => rw [hq] at hy; cases hy
  | some q => rw [hq] at hy; cases hy; exact h.no j q hj hq
end
theorem closeR_px (L : List RX) (s : Int) : (closeR L s).map RX.px = closeX (L.map RX.px) s := by
  unfold closeR closeX
  rw [List.filter_map]
  rfl
theorem hit_px {sl : Int} {vl : ByteArray} {vc vh : Value} {cl wl : List Int} {n s : Int} : hitX n s (RX.px ⟨sl, vl, vc, vh, cl, wl⟩) = (sl == s && (decide (n ∈ cl) && !decide (n ∈ wl))) := rfl

set_option maxRecDepth 100000 in
set_option maxHeartbeats 8000000 in
theorem rdvoted_any {w : World} {G : Nat → Prop} {v : Value} {L : List RX} (h : RDesk w G v L) (hG : ∀ g, G g → g < w.heap.size) (last n s : Int) (hl : L.length ≤ 1000) (hlc : ∀ x ∈ L, x.cfg.length ≤ 900 ∧ x.who.length ≤ 900) :
    Calls Try.prog 15 #[.agg #[v, .int .u64 last], .int .u8 n, .int .u64 s] w fun e w' => ∃ v' L', e = .returned (.tuple #[.agg #[v', .int .u64 last], itemV (votedX (L.map RX.px) n s).2.1, .bool (votedX (L.map RX.px) n s).2.2]) ∧ Upd (fun _ => False) w w' ∧ RDesk w' (fun g => G g ∨ (w.heap.size ≤ g ∧ g < w'.heap.size)) v' L' ∧ L'.map RX.px = (votedX (L.map RX.px) n s).1 := by
  obtain ⟨i0, hi0, hz0, hz1, hz2⟩ := info_parts infoROpen
  obtain ⟨i1, hi1, hy0, hy1, hy2⟩ := info_parts infoU8
  obtain ⟨A, c, rfl, hnc, hcm⟩ := h.1.shape
  have HD := Lib.hid h
  have HG := Lib.hid hG
  have HLC := Lib.hid hlc
  have hl' : (L.length : Int) ≤ 1000 := by omega
  have HL := Lib.hid hl
  have H1C : Hid (∀ u ∈ L.flatMap xCells, u.oneCell' = true) := by
    intro u hu
    obtain ⟨x, hx, hu⟩ := List.mem_flatMap.1 hu
    obtain ⟨q1, q2⟩ := h.2 x hx
    obtain ⟨_, _, e, _⟩ := q1.shape
    obtain ⟨_, _, e', _⟩ := q2.shape
    simp only [xCells, List.mem_cons, List.not_mem_nil, or_false] at hu
    rcases hu with rfl | rfl | rfl | rfl
    · rfl
    · rfl
    · rw [e]; rfl
    · rw [e']; rfl
  obtain ⟨m, hm⟩ : ∃ m, L.length = m := ⟨_, rfl⟩
  have HM := Lib.hid hm
  rw [hm] at hl' hnc hl ⊢
  have HD1 := Lib.hid h.1
  rw [hm] at HD1
  clear h hG hcm hlc hm hnc
  go_enter Try.func15, Try.ntmps15
  go_wp2_with (first
    | (at_builtin
       go_must (refine wpList_append_sl _ rfl (.const (.slice none 0 0)) (.tmp 13) _ rfl 69 i0 _ 4 72 Try.underlying27 hi0 hz0 hz1 hz2 rfl (by omega) (.slice none 0 0) 0 [] rfl (World.ownsRow_nil _ _ _ _) G (.slice A m c) m (L.flatMap xCells) rfl (((HD1.out.alloc _).alloc _).alloc _) H1C.out (by simp only [maxLen]; omega) (by omega) ?_)
       intro v1 w1 hown1 hg1 hat1))
  rw [Nat.zero_add, List.nil_append] at hown1
  obtain ⟨A1, c1, rfl, _, _⟩ := row_shape hown1
  obtain ⟨W0, hW0⟩ : ∃ W0, W0 = ((w.alloc (.cells #[.slice A m c, .int .u64 last] 30)).alloc (.cells #[.slice none 0 0, .int .u64 0] 30)).alloc (.cells #[.int .u64 0, .string { data := #[] }] 41) := ⟨_, rfl⟩
  have hu0 : Upd (fun _ => False) w W0 := by rw [hW0]; exact (((Upd.refl _ _).alloc _).alloc _).alloc _
  have hs0 : W0.heap.size = w.heap.size + 3 := by rw [hW0]; simp
  have hu01 : Upd (fun _ => False) W0 w1 := Upd.grown (Upd.refl _ W0) (by rw [hW0]; exact hg1) (fun k hk => (no_own_nil k hk).elim)
  have hk1 := hat_new hat1
  have HU1 := Lib.hid (hu0.trans hu01 (fun _ _ h => h))
  have HBX : Hid (Blk w1 w.heap.size 30 #[.slice A m c, .int .u64 last]) := by
    refine Blk.upd ?_ hu01 id
    rw [hW0]; exact ((Blk.new _ _ _).alloc _).alloc _
  have HRS : Hid (Blk w1 (w.heap.size + 1) 30 #[.slice none 0 0, .int .u64 0]) := by
    refine Blk.upd ?_ hu01 id
    rw [hW0]; exact (Blk.newAt _ _ _ (by simp)).alloc _
  have HIT : Hid (Blk w1 (w.heap.size + 2) 41 #[.int .u64 0, .string { data := #[] }]) := by
    refine Blk.upd ?_ hu01 id
    rw [hW0]; exact Blk.newAt _ _ _ (by simp)
  have hz1 := hu01.size
  have HI0 : Hid (VInv w.heap.size w1 G (.slice A1 m c1) L n s 0 L w1) := by
    refine ⟨HG.out, fun g hg => ⟨?_, (hown1.lt g hg).2⟩, by omega, rfl, by rw [HM.out]; exact hown1, Upd.refl _ _, fun j hj => absurd hj (by omega), fun j _ => rfl, fun x hx => ?_, fun j _ hj => absurd hj (by omega)⟩
    · have := hk1 g hg
      rw [← hW0, hs0] at this
      omega
    · obtain ⟨x1, x2⟩ := HD.out.2 x hx
      exact ⟨(x1.upd HU1.out (fun _ _ h => h)).more (fun g hg => .inl hg), (x2.upd HU1.out (fun _ _ h => h)).more (fun g hg => .inl hg)⟩
  have HZ1 : Hid (w.heap.size + 3 ≤ w1.heap.size) := by show _ ≤ _; omega
  clear hW0 hu0 hs0 hu01 hk1 hz1 hown1 hg1 hat1
  go_wp2_with fail
  go_loopw [10] (fun i wr => ∃ (k : Nat) (Lk : List RX), k ≤ m ∧ i = .int .i64 k ∧ VInv w.heap.size w1 G (.slice A1 m c1) L n s k Lk wr) (fun i _ => m - (intOf i).toNat)
  case atStart => exact ⟨0, L, Nat.zero_le _, rfl, HI0.out⟩
  case round =>
    obtain ⟨k, Lk, hk, rfl, hI⟩ := hrel
    have HI := Lib.hid hI
    have hbx := HBX.out.upd hI.upd (fun e => by have := hI.ho _ e; omega)
    have d0 : wr.cell? ⟨w.heap.size, 0, none⟩ = some (.slice A m c) := hbx.cell 0
    have d1 : wr.cell? ⟨w.heap.size, 1, none⟩ = some (.int .u64 last) := hbx.cell 1
    clear hI hbx
    by_cases hlt : k < m
    · have hkl : k < L.length := by rw [HM.out]; exact hlt
      have hkk : k < Lk.length := by rw [HI.out.len]; exact hkl
      obtain ⟨g, cap, e, _, hgl⟩ := HI.out.own.form (by omega : 0 < L.length)
      simp only [Value.slice.injEq] at e
      obtain ⟨eA, em, ec⟩ := e
      clear em ec
      obtain ⟨o, ho⟩ : ∃ o, o = 0 := ⟨_, rfl⟩
      rw [← ho] at eA
      subst eA
      have HO := Lib.hid ho
      clear ho
      have hcc : ∀ j, j < 4 → wr.cell? ⟨g, o + k * 4 + j, none⟩ = (xCells Lk[k])[j]? := by
        intro j hj
        have h1 := HI.out.own
        rw [HO.out, HM.out] at h1
        rw [HO.out, Nat.zero_add, h1.cellAt (k * 4 + j) (by omega), flat4 Lk k hkk j hj]
      have HFZ : Hid (∀ j, wr.frozen? ⟨g, o + k * 4 + j, none⟩ = false) := by
        intro j
        have h1 := HI.out.own
        rw [HO.out, HM.out] at h1
        rw [HO.out, Nat.zero_add, h1.frozenAt (k * 4 + j)]
      have hwz : w1.heap.size ≤ wr.heap.size := HI.out.upd.size
      obtain ⟨x, hxx⟩ : ∃ x, Lk[k] = x := ⟨_, rfl⟩
      have hLx : L[k]? = some x := by rw [← HI.out.rest k (Nat.le_refl _), List.getElem?_eq_getElem hkk, hxx]
      have hmem : x ∈ Lk := hxx ▸ List.getElem_mem hkk
      obtain ⟨hsc, hsh⟩ := HI.out.sl x hmem
      obtain ⟨lc1, lw1⟩ := HLC.out x (List.mem_of_getElem? hLx)
      rw [hxx] at hcc
      obtain ⟨sl, vl, vc, vh, cl, wl⟩ := x
      dsimp only at hsc hsh lc1 lw1
      obtain ⟨Ac, cc, rfl, _, _⟩ := hsc.shape
      obtain ⟨Ah, ch, rfl, _, _⟩ := hsh.shape
      obtain ⟨nc, hnc⟩ : ∃ nc, cl.length = nc := ⟨_, rfl⟩
      obtain ⟨nh, hnh⟩ : ∃ nh, wl.length = nh := ⟨_, rfl⟩
      rw [hnc] at hsc hcc lc1 hLx hxx hmem
      rw [hnh] at hsh hcc lw1 hLx hxx hmem
      have HNC := Lib.hid (And.intro hnc hnh)
      clear hnc hnh hxx hmem
      have e0 : wr.cell? ⟨g, o + k * 4, none⟩ = some (.int .u64 sl) := hcc 0 (by omega)
      have e1 : wr.cell? ⟨g, o + k * 4 + 1, none⟩ = some (.string vl) := hcc 1 (by omega)
      have e2 : wr.cell? ⟨g, o + k * 4 + 2, none⟩ = some (.slice Ac nc cc) := hcc 2 (by omega)
      have e3 : wr.cell? ⟨g, o + k * 4 + 3, none⟩ = some (.slice Ah nh ch) := hcc 3 (by omega)
      have HCC := Lib.hid (And.intro e0 (And.intro e1 (And.intro e2 e3)))
      have HX := Lib.hid hLx
      have HSC := Lib.hid hsc
      have HSH := Lib.hid hsh
      have HGL := Lib.hid hgl
      clear hcc hLx hsc hsh hgl
      by_cases hs : sl = s
      case neg =>
        have hs' : (sl != s) = true := by simpa using hs
        have HN : Hid (hitX n s (RX.px ⟨sl, vl, .slice Ac nc cc, .slice Ah nh ch, cl, wl⟩) = false) := by show _ = _; rw [hit_px, beq_eq_false_iff_ne.2 hs]; rfl
        clear hs
        go_wp2_with fail
        go_roundw
        case rel => exact ⟨k + 1, Lk, by omega, by go_num, (HI.out.still ((Upd.refl _ _).alloc _)).skip HX.out HN.out⟩
        case measure => simp [intOf]; omega
      have hs' : (sl != s) = false := by simpa using hs
      have HSL := Lib.hid hs
      have hss : (sl == s) = true := by simpa using hs
      obtain ⟨t1, ht1⟩ : ∃ t, decide (n ∈ cl) = t := ⟨_, rfl⟩
      obtain ⟨t2, ht2⟩ : ∃ t, decide (n ∈ wl) = t := ⟨_, rfl⟩
      have HH1 := Lib.hid (r8has_any (.slice Ac nc cc) nc cl n (wr.alloc (.cells #[.int .u64 sl, .string vl, .slice Ac nc cc, .slice Ah nh ch] 69)) _ (HSC.out.alloc _) (by omega))
      have HH2 := Lib.hid (r8has_any (.slice Ah nh ch) nh wl n (wr.alloc (.cells #[.int .u64 sl, .string vl, .slice Ac nc cc, .slice Ah nh ch] 69)) _ (HSH.out.alloc _) (by omega))
      rw [ht1] at HH1
      rw [ht2] at HH2
      have HHT : Hid (hitX n s (RX.px ⟨sl, vl, .slice Ac nc cc, .slice Ah nh ch, cl, wl⟩) = (t1 && !t2)) := by show _ = _; rw [hit_px, ht1, ht2, hss, Bool.true_and]
      clear ht1 ht2 hs hss
      go_wp2_with fail
      refine HH1.out.mono ?_
      rintro e w' ⟨rfl, rfl⟩
      cases t1
      case false =>
        go_wp2_with fail
        go_roundw
        case rel => exact ⟨k + 1, Lk, by omega, by go_num, (HI.out.still ((Upd.refl _ _).alloc _)).skip HX.out HHT.out⟩
        case measure => simp [intOf]; omega
      go_wp2_with fail
      refine HH2.out.mono ?_
      rintro e w' ⟨rfl, rfl⟩
      cases t2
      case true =>
        go_wp2_with fail
        go_roundw
        case rel => exact ⟨k + 1, Lk, by omega, by go_num, (HI.out.still ((Upd.refl _ _).alloc _)).skip HX.out HHT.out⟩
        case measure => simp [intOf]; omega
      go_wp2_with (first
        | (at_builtin
           refine wpList_append_sl _ rfl (.const (.slice none 0 0)) (.tmp 43) _ rfl 5 i1 (.int .u8 0) 1 1 Try.underlying51 hi1 hy0 hy1 hy2 rfl (by omega) (.slice none 0 0) 0 [] rfl (World.ownsRow_nil _ _ _ _) _ (.slice Ah nh ch) nh (wl.map (Value.int .u8)) rfl (HSH.out.alloc _) (ones_one _ _) (by simp only [maxLen]; omega) (by omega) ?_
           intro v3 w3 hown3 hg3 hat3
           rw [Nat.zero_add, List.nil_append] at hown3
           obtain ⟨A3, c3, rfl, _, _⟩ := row_shape hown3
           have HO3 := Lib.hid hown3
           have HG3 := Lib.hid hg3
           have HA3 := Lib.hid (hat_new hat3)
           clear hown3 hg3 hat3)
        | (at_builtin
           go_must (refine wpList_append_sl _ rfl (.tmp 44) (.tmp 46) _ rfl 5 i1 (.int .u8 0) 1 1 Try.underlying51 hi1 hy0 hy1 hy2 rfl (by omega) (.slice A3 nh c3) nh (wl.map (Value.int .u8)) rfl (HO3.out.alloc _) _ _ 1 [.int .u8 n] rfl (Sl.one _ _ _) (by simp [Value.oneCell']) (by simp only [maxLen]; omega) (by omega) ?_)
           intro v4 w4 hown4 hg4 hat4
           obtain ⟨A4, c4, rfl, _, _⟩ := row_shape hown4
           have hk3 : ∀ j, Value.ownBlock (.slice A3 nh c3) = some j → j = wr.heap.size + 1 := fun j hj => by have := HA3.out j hj; simpa using this
           have hb4 : Blk w4 wr.heap.size 69 #[.int .u64 sl, .string vl, .slice Ac nc cc, .slice Ah nh ch] := Blk.grown ((Blk.grown (Blk.new wr 69 #[.int .u64 sl, .string vl, .slice Ac nc cc, .slice Ah nh ch]) HG3.out (fun e => (no_own_nil _ e.symm).elim)).alloc _) hg4 (fun e => by have := hk3 _ e.symm; omega)
           have f3 : w4.cell? ⟨wr.heap.size, 3, none⟩ = some (.slice Ah nh ch) := hb4.cell 3
           have f2 : w4.cell? ⟨wr.heap.size, 2, none⟩ = some (.slice Ac nc cc) := hb4.cell 2
           have g3 : w4.frozen? ⟨wr.heap.size, 3, none⟩ = false := hb4.frozen 3
           have HO4 := Lib.hid hown4
           have HG4 := Lib.hid hg4
           have HA4 := Lib.hid hat4
           have HK3 := Lib.hid hk3
           have HB4 := Lib.hid hb4
           clear hown4 hg4 hat4 hk3 hb4))
      have hgr3 : Upd (fun _ => False) (wr.alloc (.cells #[.int .u64 sl, .string vl, .slice Ac nc cc, .slice Ah nh ch] 69)) w3 := Upd.grown (Upd.refl _ _) HG3.out (fun j hj => (no_own_nil j hj).elim)
      have hz3 := hgr3.size
      have hu4 : Upd (fun _ => False) wr w4 := Upd.grown (F := fun _ => False) ((((Upd.refl (fun _ => False) wr).alloc _).trans hgr3 (fun _ _ h => h)).alloc (.cells #[.int .u8 n] 5)) HG4.out (fun j hj => .inr (by have := HK3.out j hj; omega))
      have hn4 : ∀ j, Value.ownBlock (.slice A4 (nh + 1) c4) = some j → wr.heap.size + 1 ≤ j := fun j hj => by
        rcases HA4.out with h | h
        · rw [h] at hj; have := HK3.out j hj; omega
        · rw [h] at hj; have := Option.some.inj hj; simp at this; simp at hz3; omega
      obtain ⟨w5, hw5⟩ : ∃ w5, w5 = w4.setCell ⟨wr.heap.size, 3, none⟩ (.slice A4 (nh + 1) c4) := ⟨_, rfl⟩
      rw [← hw5]
      have hu45 : Upd (fun j => j = wr.heap.size) w4 w5 := by rw [hw5]; exact Upd.setCell (F := fun j => j = wr.heap.size) (Upd.refl _ _) (p := ⟨wr.heap.size, 3, none⟩) (.inl rfl) _
      have hu5 : Upd (fun _ => False) wr w5 := hu4.trans hu45 (fun i hi e => by omega)
      have hb5 : Blk w5 wr.heap.size 69 #[.int .u64 sl, .string vl, .slice Ac nc cc, .slice A4 (nh + 1) c4] := by
        rw [hw5]; simpa using HB4.out.set_ 3 (.slice A4 (nh + 1) c4)
      have hs4 := (Sl.own HO4.out).upd hu45 (fun j hj e => by have := hn4 j hj; omega)
      have hl4 : ∀ j, Value.ownBlock (.slice A4 (nh + 1) c4) = some j → j < w5.heap.size := fun j hj => Nat.lt_of_lt_of_le (HO4.out.lt j hj).2 hu45.size
      have hw1 := HU1.out.size
      have hz5 := hu5.size
      have hGl : ∀ j, (G j ∨ (w1.heap.size ≤ j ∧ j < wr.heap.size)) → j < w5.heap.size := fun j hj => by
        rcases hj with hj | hj
        · have := HG.out j hj; omega
        · omega
      have hmj := r8major_any (.slice Ac nc cc) (.slice A4 (nh + 1) c4) nc (nh + 1) cl (wl ++ [n]) w5 _ _ (HSC.out.upd hu5 (fun _ _ h => h)) (by rw [List.map_append]; exact hs4) hGl hl4 (by omega) (by omega)
      obtain ⟨mj, hmm⟩ : ∃ mj, majX cl (wl ++ [n]) = mj := ⟨_, rfl⟩
      have hmm' := hmm
      unfold majX at hmm'
      rw [hmm'] at hmj
      have HMJ := Lib.hid hmj
      have HDX : Hid (decX n s (RX.px ⟨sl, vl, .slice Ac nc cc, .slice Ah nh ch, cl, wl⟩) = mj) := by show _ = _; unfold decX; rw [HHT.out]; exact hmm
      have HU5 := Lib.hid hu5
      have HB5 := Lib.hid hb5
      have HS4 := Lib.hid hs4
      have HN4 := Lib.hid hn4
      have HL4 := Lib.hid hl4
      clear hgr3 hz3 hu4 hn4 hw5 hu45 hu5 hb5 hs4 hl4 hz5 hGl hmj hmm hmm' f3 f2 g3
      refine HMJ.out.mono ?_
      rintro e w6 ⟨rfl, hu6⟩
      have HU6 := Lib.hid (HU5.out.trans hu6 (fun _ _ h => h))
      have HU56 := Lib.hid hu6
      have hb6 := HB5.out.upd hu6 id
      have HB6 := Lib.hid hb6
      have q0 : w6.cell? ⟨wr.heap.size, 0, none⟩ = some (.int .u64 sl) := hb6.cell 0
      have q1 : w6.cell? ⟨wr.heap.size, 1, none⟩ = some (.string vl) := hb6.cell 1
      have q2 : w6.cell? ⟨wr.heap.size, 2, none⟩ = some (.slice Ac nc cc) := hb6.cell 2
      have q3 : w6.cell? ⟨wr.heap.size, 3, none⟩ = some (.slice A4 (nh + 1) c4) := hb6.cell 3
      clear hu6 hb6
      cases mj
      case false =>
        have hk6 : ∀ p, p.block = g → w6.cell? p = wr.cell? p := fun p hp => HU6.out.cell (by rw [hp]; exact HGL.out) id
        have hf6 : ∀ p, p.block = g → w6.frozen? p = wr.frozen? p := fun p hp => HU6.out.frozen (by rw [hp]; exact HGL.out) id
        obtain ⟨e0, e1, e2, e3⟩ := HCC.out
        have r0 := (hk6 ⟨g, o + k * 4, none⟩ rfl).trans e0
        have r1 := (hk6 ⟨g, o + k * 4 + 1, none⟩ rfl).trans e1
        have r2 := (hk6 ⟨g, o + k * 4 + 2, none⟩ rfl).trans e2
        have r3 := (hk6 ⟨g, o + k * 4 + 3, none⟩ rfl).trans e3
        have z0 := (hf6 ⟨g, o + k * 4, none⟩ rfl).trans (HFZ.out 0)
        have z1 := (hf6 ⟨g, o + k * 4 + 1, none⟩ rfl).trans (HFZ.out 1)
        have z2 := (hf6 ⟨g, o + k * 4 + 2, none⟩ rfl).trans (HFZ.out 2)
        have z3 := (hf6 ⟨g, o + k * 4 + 3, none⟩ rfl).trans (HFZ.out 3)
        clear hk6 hf6 e0 e1 e2 e3
        go_wp2_with fail
        go_roundw
        case rel =>
          refine ⟨k + 1, Lk.set k ⟨sl, vl, .slice Ac nc cc, .slice A4 (nh + 1) c4, cl, wl ++ [n]⟩, by omega, by go_num, ?_⟩
          have ho := HO.out
          subst ho
          have hz6 := HU6.out.size
          have hz56 := HU56.out.size
          have hst := HI.out.store (x' := ⟨sl, vl, .slice Ac nc cc, .slice A4 (nh + 1) c4, cl, wl ++ [n]⟩) (g := g) (c := c1) HX.out (by rw [HM.out]) HU6.out (by unfold stepX; rw [HHT.out]; rfl) HDX.out ⟨?_, ?_⟩
          · simpa only [Nat.zero_add] using hst
          · dsimp only
            rw [HNC.out.1]
            exact (HSC.out.upd HU6.out (fun _ _ h => h)).more (fun j hj => hj.imp id (fun h => by omega))
          · dsimp only
            rw [List.length_append, HNC.out.2, List.map_append]
            exact (HS4.out.upd HU56.out (fun _ _ h => h)).more (fun j hj => .inr (by have h1 := HN4.out j hj; have h2 := HL4.out j hj; omega))
        case measure => simp [intOf]; omega
      have hbx6 := (HBX.out.upd HI.out.upd (fun e => by have := HI.out.ho _ e; omega)).upd HU6.out id
      have hrs6 := (HRS.out.upd HI.out.upd (fun e => by have := HI.out.ho _ e; omega)).upd HU6.out id
      have hit6 := (HIT.out.upd HI.out.upd (fun e => by have := HI.out.ho _ e; omega)).upd HU6.out id
      have HU06 := Lib.hid ((HU1.out.trans HI.out.upd (fun i hi e => by have := HI.out.ho i e; omega)).trans HU6.out (fun _ _ h => h))
      have HCA : Hid (∀ wx, Upd (fun _ => False) w6 wx → Calls Try.prog 13 #[.agg #[.slice A m c, .int .u64 last], .int .u64 s] wx fun e w' => ∃ v', e = .returned (.agg #[v', .int .u64 last]) ∧ Upd (fun _ => False) wx w' ∧ RDesk w' (fun g => G g ∨ (wx.heap.size ≤ g ∧ g < w'.heap.size)) v' (closeR L s)) := fun wx hu => by
        have hd := HD.out.upd (HU06.out.trans hu (fun _ _ h => h)) (fun _ _ h => h)
        rw [HM.out] at hd
        have hz := (HU06.out.trans hu (fun _ _ h => h)).size
        exact rdclose_any hd (fun j hj => by have := HG.out j hj; omega) last s HL.out
      have b0 : w6.cell? ⟨w.heap.size, 0, none⟩ = some (.slice A m c) := hbx6.cell 0
      have b1 : w6.cell? ⟨w.heap.size, 1, none⟩ = some (.int .u64 last) := hbx6.cell 1
      have HBX6 := Lib.hid hbx6
      have HRS6 := Lib.hid hrs6
      have HIT6 := Lib.hid hit6
      have HZ6 : Hid (w.heap.size + 3 ≤ w6.heap.size) := by have := hit6.lt; show _ ≤ _; omega
      have hne : w.heap.size + 3 ≤ wr.heap.size := by have := HZ1.out; omega
      clear hbx6 hrs6 hit6 d0 d1 e0 e1 e2 e3
      have HK : Hid (∀ wx, Upd (fun j => j = w.heap.size + 1 ∨ j = w.heap.size + 2) w6 wx → wx.cell? ⟨w.heap.size, 0, none⟩ = some (.slice A m c) ∧ wx.cell? ⟨w.heap.size, 1, none⟩ = some (.int .u64 last) ∧ wx.cell? ⟨wr.heap.size, 1, none⟩ = some (.string vl)) := fun wx hu => by
        have x1 := HBX6.out.upd hu (by omega)
        have x2 := HB6.out.upd hu (by omega)
        exact ⟨x1.cell 0, x1.cell 1, x2.cell 1⟩
      have HUU : Hid (∀ wx a b, Upd (fun j => j = w.heap.size + 1 ∨ j = w.heap.size + 2) w6 wx → Upd (fun j => j = w.heap.size + 1 ∨ j = w.heap.size + 2) w6 ((wx.setCell ⟨w.heap.size + 1, 0, none⟩ a).setCell ⟨w.heap.size + 1, 1, none⟩ b)) := fun wx a b hu => Upd.setCell (Upd.setCell hu (.inl (.inl rfl)) _) (.inl (.inl rfl)) _
      have HUV : Hid (∀ wx a b, Upd (fun j => j = w.heap.size + 1 ∨ j = w.heap.size + 2) w6 wx → Upd (fun j => j = w.heap.size + 1 ∨ j = w.heap.size + 2) w6 ((wx.setCell ⟨w.heap.size + 1 + 1, 0, none⟩ a).setCell ⟨w.heap.size + 1 + 1, 1, none⟩ b)) := fun wx a b hu => Upd.setCell (Upd.setCell hu (.inl (.inr rfl)) _) (.inl (.inr rfl)) _
      clear q0 q2 q3
      go_wp2_with fail
      go_region_held3 (fun wx => wx.cell? ⟨w.heap.size, 0, none⟩ = some (.slice A m c) ∧ wx.cell? ⟨w.heap.size, 1, none⟩ = some (.int .u64 last) ∧ wx.cell? ⟨wr.heap.size, 1, none⟩ = some (.string vl))
        (first
          | exact HK.out _ (Upd.refl _ _)
          | exact HK.out _ (Upd.refl _ _).drew
          | exact HK.out _ (HU7.out.mono (fun _ _ h => h.elim))
          | exact HK.out _ (HUU.out _ _ _ (HU7.out.mono (fun _ _ h => h.elim)))
          | exact HK.out _ (HUV.out _ _ _ (HU7.out.mono (fun _ _ h => h.elim)))
          | exact HK.out _ (HUV.out _ _ _ (HUU.out _ _ _ (HU7.out.mono (fun _ _ h => h.elim))))
          | exact HK.out _ (HUU.out _ _ _ (HUV.out _ _ _ (HU7.out.mono (fun _ _ h => h.elim)))))
        (first
          | (go_at_call 13
             refine (HCA.out _ (by first | exact Upd.refl _ _ | exact (Upd.refl _ _).drew)).mono ?_
             rintro e w7 ⟨v7, rfl, hu7, hd7⟩
             have HU7 : Hid (Upd (fun _ => False) w6 w7) := by first | exact hu7 | exact (Upd.refl _ _).drew.trans hu7 (fun _ _ h => h)
             obtain ⟨A7, c7, rfl, _, _⟩ := hd7.1.shape
             have HD7 := Lib.hid hd7
             have hrs7 := HRS6.out.upd HU7.out id
             have hit7 := HIT6.out.upd HU7.out id
             have f0 : w7.cell? ⟨w.heap.size + 1, 0, none⟩ = some (.slice none 0 0) := hrs7.cell 0
             have f1 : w7.cell? ⟨w.heap.size + 1, 1, none⟩ = some (.int .u64 0) := hrs7.cell 1
             have g0 : w7.frozen? ⟨w.heap.size + 1, 0, none⟩ = false := hrs7.frozen 0
             have g1 : w7.frozen? ⟨w.heap.size + 1, 1, none⟩ = false := hrs7.frozen 1
             have f2 : w7.cell? ⟨w.heap.size + 1 + 1, 0, none⟩ = some (.int .u64 0) := hit7.cell 0
             have f3 : w7.cell? ⟨w.heap.size + 1 + 1, 1, none⟩ = some (.string { data := #[] }) := hit7.cell 1
             have g2 : w7.frozen? ⟨w.heap.size + 1 + 1, 0, none⟩ = false := hit7.frozen 0
             have g3 : w7.frozen? ⟨w.heap.size + 1 + 1, 1, none⟩ = false := hit7.frozen 1
             have HRS7 := Lib.hid hrs7
             have HIT7 := Lib.hid hit7
             clear hu7 hd7 hrs7 hit7))
      all_goals
        clear b0 b1 q1
        go_wp2_with fail
        have hB := ((HRS7.out.set_ 0 (.slice A7 (closeR L s).length c7)).set_ 1 (.int .u64 last)).far (p := ⟨w.heap.size + 1 + 1, 0, none⟩) (by show w.heap.size + 1 ≠ w.heap.size + 1 + 1; omega) (.int .u64 s) |>.far (p := ⟨w.heap.size + 1 + 1, 1, none⟩) (by show w.heap.size + 1 ≠ w.heap.size + 1 + 1; omega) (.string vl)
        have hC := ((((HIT7.out.far (p := ⟨w.heap.size + 1, 0, none⟩) (by show w.heap.size + 2 ≠ w.heap.size + 1; omega) (.slice A7 (closeR L s).length c7)).far (p := ⟨w.heap.size + 1, 1, none⟩) (by show w.heap.size + 2 ≠ w.heap.size + 1; omega) (.int .u64 last)).set_ 0 (.int .u64 s)).set_ 1 (.string vl))
        have p0 := hB.cell 0
        have p1 := hB.cell 1
        have p2 := hC.cell 0
        have p3 := hC.cell 1
        simp at p0 p1 p2 p3
        have hvx := HI.out.found HX.out HDX.out
        rw [hvx]
        have huz := HUV.out _ (.int .u64 s) (.string vl) (HUU.out _ (.slice A7 (closeR L s).length c7) (.int .u64 last) (HU7.out.mono (fun _ _ h => h.elim)))
        have huz7 : Upd (fun j => j = w.heap.size + 1 ∨ j = w.heap.size + 2) w7 ((((w7.setCell ⟨w.heap.size + 1, 0, none⟩ (.slice A7 (closeR L s).length c7)).setCell ⟨w.heap.size + 1, 1, none⟩ (.int .u64 last)).setCell ⟨w.heap.size + 1 + 1, 0, none⟩ (.int .u64 s)).setCell ⟨w.heap.size + 1 + 1, 1, none⟩ (.string vl)) := Upd.setCell (Upd.setCell (Upd.setCell (Upd.setCell (Upd.refl _ _) (.inl (.inl rfl)) _) (.inl (.inl rfl)) _) (.inl (.inr rfl)) _) (.inl (.inr rfl)) _
        have hz7 := huz7.size
        have hz06 := HU06.out.size
        have hz6l := HZ6.out
        refine bodyPost_ret (v := .tuple #[.agg #[.slice A7 (closeR L s).length c7, .int .u64 last], .agg #[.int .u64 s, .string vl], .bool true]) (by simp [results, Try.results15, go_sem, p0, p1, p2, p3]) rfl ⟨_, closeR L s, rfl, HU06.out.trans huz (fun i hi e => by omega), ?_, closeR_px L s⟩
        refine ⟨(HD7.out.1.upd huz7 (fun j hj e => ?_)).more (fun j hj => ?_), fun x hx => ⟨((HD7.out.2 x hx).1.upd huz7 (fun j hj e => ?_)).more (fun j hj => ?_), ((HD7.out.2 x hx).2.upd huz7 (fun j hj e => ?_)).more (fun j hj => ?_)⟩⟩
        all_goals
          have hw6d : w6.drew.heap.size = w6.heap.size := rfl
          rcases hj with hj | hj
          · first
            | exact .inl hj
            | (have := HG.out j hj; omega)
          · first
            | omega
            | exact .inr (by omega)
    · have hke : m ≤ k := by omega
      have hke2 : k = m := by omega
      subst hke2
      have HE := Lib.hid (HI.out.end_ (by rw [HM.out]; exact hke))
      have hrs := HRS.out.upd HI.out.upd (fun e => by have := HI.out.ho _ e; omega)
      have hit := HIT.out.upd HI.out.upd (fun e => by have := HI.out.ho _ e; omega)
      have f0 : wr.cell? ⟨w.heap.size + 1, 0, none⟩ = some (.slice none 0 0) := hrs.cell 0
      have f1 : wr.cell? ⟨w.heap.size + 1, 1, none⟩ = some (.int .u64 0) := hrs.cell 1
      have g0 : wr.frozen? ⟨w.heap.size + 1, 0, none⟩ = false := hrs.frozen 0
      have g1 : wr.frozen? ⟨w.heap.size + 1, 1, none⟩ = false := hrs.frozen 1
      have f2 : wr.cell? ⟨w.heap.size + 2, 0, none⟩ = some (.int .u64 0) := hit.cell 0
      have f3 : wr.cell? ⟨w.heap.size + 2, 1, none⟩ = some (.string { data := #[] }) := hit.cell 1
      have g2 : wr.frozen? ⟨w.heap.size + 2, 0, none⟩ = false := hit.frozen 0
      have g3 : wr.frozen? ⟨w.heap.size + 2, 1, none⟩ = false := hit.frozen 1
      have HRS' := Lib.hid hrs
      have HIT' := Lib.hid hit
      clear hrs hit hke
      go_wp2_with fail
      have hB := ((HRS'.out.set_ 0 (.slice A1 k c1)).set_ 1 (.int .u64 last)).far (p := ⟨w.heap.size + 1 + 1, 0, none⟩) (by show w.heap.size + 1 ≠ w.heap.size + 1 + 1; omega) (.int .u64 0) |>.far (p := ⟨w.heap.size + 1 + 1, 1, none⟩) (by show w.heap.size + 1 ≠ w.heap.size + 1 + 1; omega) (.string { data := #[] })
      have hC := ((((HIT'.out.far (p := ⟨w.heap.size + 1, 0, none⟩) (by show w.heap.size + 2 ≠ w.heap.size + 1; omega) (.slice A1 k c1)).far (p := ⟨w.heap.size + 1, 1, none⟩) (by show w.heap.size + 2 ≠ w.heap.size + 1; omega) (.int .u64 last)).set_ 0 (.int .u64 0)).set_ 1 (.string { data := #[] }))
      have p0 := hB.cell 0
      have p1 := hB.cell 1
      have p2 := hC.cell 0
      have p3 := hC.cell 1
      simp at p0 p1 p2 p3
      have huz : Upd (fun j => j = w.heap.size + 1 ∨ j = w.heap.size + 2) wr ((((wr.setCell ⟨w.heap.size + 1, 0, none⟩ (.slice A1 k c1)).setCell ⟨w.heap.size + 1, 1, none⟩ (.int .u64 last)).setCell ⟨w.heap.size + 1 + 1, 0, none⟩ (.int .u64 0)).setCell ⟨w.heap.size + 1 + 1, 1, none⟩ (.string { data := #[] })) := Upd.setCell (Upd.setCell (Upd.setCell (Upd.setCell (Upd.refl _ _) (.inl (.inl rfl)) _) (.inl (.inl rfl)) _) (.inl (.inr rfl)) _) (.inl (.inr rfl)) _
      have HU0r := (HU1.out.trans HI.out.upd (fun i hi e => by have := HI.out.ho i e; omega))
      have hz := huz.size
      have hz1 := HZ1.out
      have hzr := HI.out.upd.size
      rw [HE.out.2]
      refine bodyPost_ret (v := .tuple #[.agg #[.slice A1 k c1, .int .u64 last], .agg #[.int .u64 0, .string { data := #[] }], .bool false]) (by simp [results, Try.results15, go_sem, p0, p1, p2, p3]) rfl ⟨_, Lk, rfl, HU0r.trans huz (fun i hi e => by omega), ⟨?_, fun x hx => ?_⟩, HE.out.1⟩
      · have ho := HI.out.own
        have hln : Lk.length = k := HI.out.len.trans HM.out
        rw [HM.out] at ho
        rw [hln]
        exact ((Sl.own ho).upd huz (fun j hj e => by have := HI.out.ho j hj; omega)).more (fun j hj => .inr (by have h1 := HI.out.ho j hj; omega))
      · obtain ⟨x1, x2⟩ := HI.out.sl x hx
        have hg : ∀ j, (G j ∨ (w1.heap.size ≤ j ∧ j < wr.heap.size)) → ¬ (j = w.heap.size + 1 ∨ j = w.heap.size + 2) := fun j hj e => by
          rcases hj with hj | hj
          · have := HG.out j hj; omega
          · omega
        exact ⟨(x1.upd huz hg).more (fun j hj => hj.imp id (fun h => by omega)), (x2.upd huz hg).more (fun j hj => hj.imp id (fun h => by omega))⟩

end Go.Proofs.Ytbnmildjamjjmaa
