/-
  The reference desk: Open. Conditions: at most 1000 open slots.
-/
import Derived.Test.YtbnmildjamjjmaaRefDsk
namespace Go.Proofs.Ytbnmildjamjjmaa
open Go.RowKit

theorem rdopen_bad (A : Option Addr) (n c : Nat) (last slot : Int) (v : ByteArray) (cfg : Int) (w : World) (h : slot < 1 ∨ 4611686018427387904 < slot ∨ dirB cfg = false) :
    Calls Try.prog 10 #[.agg #[.slice A n c, .int .u64 last], .int .u64 slot, .string v, .int .u8 cfg] w fun e w' => e = .returned (.tuple #[.agg #[.slice A n c, .int .u64 last], .int .i64 2]) ∧ Upd (fun _ => False) w w' := by
  by_cases h1 : slot < 1
  · clear h
    go_enter Try.func10, Try.ntmps10
    go_wp2_with fail
    exact bodyPost_ret (v := .tuple #[.agg #[.slice A n c, .int .u64 last], .int .i64 2]) (by simp [results, Try.results10, go_sem]) rfl ⟨rfl, ((Upd.refl _ _).alloc _).alloc _⟩
  by_cases h2 : 4611686018427387904 < slot
  · clear h
    go_enter Try.func10, Try.ntmps10
    go_wp2_with fail
    exact bodyPost_ret (v := .tuple #[.agg #[.slice A n c, .int .u64 last], .int .i64 2]) (by simp [results, Try.results10, go_sem]) rfl ⟨rfl, ((Upd.refl _ _).alloc _).alloc _⟩
  have h3 : dirB cfg = false := by
    rcases h with h | h | h
    · exact absurd h h1
    · exact absurd h h2
    · exact h
  have HD := Lib.hid (fun (wx : World) => h3 ▸ rdir_any cfg wx)
  clear h h3
  go_enter Try.func10, Try.ntmps10
  go_wp2_with fail
  refine (HD.out _).mono ?_
  rintro e w' ⟨rfl, rfl⟩
  go_wp2_with fail
  exact bodyPost_ret (v := .tuple #[.agg #[.slice A n c, .int .u64 last], .int .i64 2]) (by simp [results, Try.results10, go_sem]) rfl ⟨rfl, ((Upd.refl _ _).alloc _).alloc _⟩

theorem rdopen_state (A : Option Addr) (n c : Nat) (last slot : Int) (v : ByteArray) (cfg : Int) (w : World) (h1 : ¬ slot < 1) (h2 : ¬ 4611686018427387904 < slot) (h3 : dirB cfg = true) (h4 : slot ≤ last) :
    Calls Try.prog 10 #[.agg #[.slice A n c, .int .u64 last], .int .u64 slot, .string v, .int .u8 cfg] w fun e w' => e = .returned (.tuple #[.agg #[.slice A n c, .int .u64 last], .int .i64 13]) ∧ Upd (fun _ => False) w w' := by
  have HD := Lib.hid (fun (wx : World) => h3 ▸ rdir_any cfg wx)
  clear h3
  go_enter Try.func10, Try.ntmps10
  go_wp2_with fail
  refine (HD.out _).mono ?_
  rintro e w' ⟨rfl, rfl⟩
  go_wp2_with fail
  exact bodyPost_ret (v := .tuple #[.agg #[.slice A n c, .int .u64 last], .int .i64 13]) (by simp [results, Try.results10, go_sem]) rfl ⟨rfl, ((Upd.refl _ _).alloc _).alloc _⟩

set_option maxRecDepth 100000 in
set_option maxHeartbeats 4000000 in
theorem rdopen_ok {w : World} {G : Nat → Prop} {v : Value} {L : List RX} (h : RDesk w G v L) (hG : ∀ g, G g → g < w.heap.size) (last slot : Int) (s : ByteArray) (cfg : Int) (hl : L.length ≤ 1000) (h1 : ¬ slot < 1) (h2 : ¬ 4611686018427387904 < slot) (h3 : dirB cfg = true) (h4 : ¬ slot ≤ last) (c0 : 0 ≤ cfg) (c1 : cfg ≤ 255) :
    Calls Try.prog 10 #[.agg #[v, .int .u64 last], .int .u64 slot, .string s, .int .u8 cfg] w fun e w' => ∃ v' vc, e = .returned (.tuple #[.agg #[v', .int .u64 slot], .int .i64 0]) ∧ Upd (fun _ => False) w w' ∧ RDesk w' (fun g => G g ∨ (w.heap.size ≤ g ∧ g < w'.heap.size)) v' (L ++ [⟨slot, s, vc, .slice none 0 0, listK cfg 7, []⟩]) := by
  obtain ⟨i0, hi0, hz0, hz1, hz2⟩ := info_parts infoROpen
  obtain ⟨A, c, rfl, hnc, hcm⟩ := h.1.shape
  have HD := Lib.hid h
  have HG := Lib.hid hG
  have hl' : (L.length : Int) ≤ 1000 := by omega
  have HC := Lib.hid (And.intro c0 c1)
  have HDIR := Lib.hid (fun (wx : World) => h3 ▸ rdir_any cfg wx)
  have H1C : Hid (∀ u ∈ L.flatMap xCells, u.oneCell' = true) := by
    intro u hu
    obtain ⟨x, hx, hu⟩ := List.mem_flatMap.1 hu
    obtain ⟨q1, q2⟩ := h.2 x hx
    obtain ⟨_, _, e, _⟩ := q1.shape
    obtain ⟨_, _, e', _⟩ := q2.shape
    simp only [xCells, List.mem_cons, List.not_mem_nil, or_false] at hu
    rcases hu with rfl | rfl | rfl | rfl
    · rfl
    · rfl
    · rw [e]; rfl
    · rw [e']; rfl
  clear h hG hcm c0 c1 h3
  go_enter Try.func10, Try.ntmps10
  go_wp2_with fail
  refine (HDIR.out _).mono ?_
  rintro e w' ⟨rfl, rfl⟩
  go_wp2_with (first
    | (at_builtin
       go_must (refine wpList_append_sl _ rfl (.const (.slice none 0 0)) (.tmp 29) _ rfl 69 i0 _ 4 72 Try.underlying27 hi0 hz0 hz1 hz2 rfl (by omega) (.slice none 0 0) 0 [] rfl (World.ownsRow_nil _ _ _ _) G (.slice A L.length c) L.length (L.flatMap xCells) rfl ((HD.out.1.alloc _).alloc _) H1C.out (by simp only [maxLen]; omega) (by omega) ?_)
       intro v1 w1 hown1 hg1 hat1))
  rw [Nat.zero_add, List.nil_append] at hown1
  obtain ⟨A1, c1, rfl, _, _⟩ := row_shape hown1
  have HO1 := Lib.hid hown1
  have HA1 := Lib.hid (hat_new hat1)
  have hu1 := Upd.grown (F := fun _ => False) ((((Upd.refl (fun _ => False) w).alloc (.cells #[.slice A L.length c, .int .u64 last] 30)).alloc (.cells #[.slice none 0 0, .int .u64 0] 30))) hg1 (fun k hk => (no_own_nil k hk).elim)
  have HU1 := Lib.hid hu1
  have hres1 : Blk w1 (w.heap.size + 1) 30 #[.slice none 0 0, .int .u64 0] := Blk.grown (Blk.newAt (w.alloc (.cells #[.slice A L.length c, .int .u64 last] 30)) (g := w.heap.size + 1) 30 #[.slice none 0 0, .int .u64 0] (by simp)) hg1 (fun e => (no_own_nil _ e.symm).elim)
  have HRES1 := Lib.hid hres1
  clear hown1 hg1 hat1 hu1 hres1
  refine (r8list_any cfg w1 HC.out.1 HC.out.2).mono ?_
  rintro e w2 ⟨v2, rfl, hown2, hu2, hv2⟩
  obtain ⟨A2, c2, rfl, _, _⟩ := row_shape hown2
  have HO2 := Lib.hid hown2
  have HU2 := Lib.hid hu2
  have HO12 := Lib.hid (own_upd HO1.out hu2 (fun g hg h => h))
  have HV2 := Lib.hid hv2
  clear hown2 hu2 hv2
  go_wp2_with (first
    | (at_builtin
       go_must (refine wpList_append_sl _ rfl (.tmp 30) (.tmp 36) _ rfl 69 i0 _ 4 72 Try.underlying27 hi0 hz0 hz1 hz2 rfl (by omega) (.slice A1 L.length c1) L.length (L.flatMap xCells) rfl (HO12.out.alloc _) _ _ 1 [.int .u64 slot, .string s, .slice A2 (listK cfg 7).length c2, .slice none 0 0] rfl (slOne4 _ _ _ _ _ _) (by simp [Value.oneCell']) (by simp only [maxLen]; omega) (by omega) ?_)
       intro v3 w3 hown3 hg3 hat3
       obtain ⟨A3, c3, rfl, _, _⟩ := row_shape hown3
       have hres3 : Blk w3 (w.heap.size + 1) 30 #[.slice none 0 0, .int .u64 0] := Blk.grown ((HRES1.out.upd HU2.out id).alloc _) hg3 (fun e => by have := HA1.out _ e.symm; simp at this)
       have f0 : w3.cell? ⟨w.heap.size + 1, 0, none⟩ = some (.slice none 0 0) := hres3.cell 0
       have f1 : w3.cell? ⟨w.heap.size + 1, 1, none⟩ = some (.int .u64 0) := hres3.cell 1
       have g0 : w3.frozen? ⟨w.heap.size + 1, 0, none⟩ = false := hres3.frozen 0
       have g1 : w3.frozen? ⟨w.heap.size + 1, 1, none⟩ = false := hres3.frozen 1))
  have hB := (hres3.set_ 0 (.slice A3 (L.length + 1) c3)).set_ 1 (.int .u64 slot)
  have q0 := hB.cell 0
  have q1 := hB.cell 1
  simp at q0 q1
  have hk1 : ∀ k, Value.ownBlock (.slice A1 L.length c1) = some k → k = w.heap.size + 2 := fun k hk => by have := HA1.out k hk; simpa using this
  have hk1l : ∀ k, Value.ownBlock (.slice A1 L.length c1) = some k → k < w1.heap.size := fun k hk => by
    rcases HO1.out.2 with ⟨e, _⟩ | ⟨g', cap, cur, e, _, hgg, _⟩
    · rw [e] at hk; exact (no_own_nil k hk).elim
    · rw [e] at hk
      simp [Value.ownBlock] at hk
      subst hk
      exact (Array.getElem?_eq_some_iff.1 hgg).1
  have h23 : Upd (fun j => Value.ownBlock (.slice A1 L.length c1) = some j) w2 w3 := Upd.grown (F := fun j => Value.ownBlock (.slice A1 L.length c1) = some j) ((Upd.refl _ w2).alloc _) hg3 (fun k hk => .inl hk)
  have h03 : Upd (fun _ => False) w w3 := (HU1.out.trans HU2.out (fun _ _ h => h)).trans h23 (fun i hi h => by have := hk1 i h; omega)
  have huz : Upd (fun j => j = w.heap.size + 1) w3 ((w3.setCell ⟨w.heap.size + 1, 0, none⟩ (.slice A3 (L.length + 1) c3)).setCell ⟨w.heap.size + 1, 1, none⟩ (.int .u64 slot)) := Upd.setCell (F := fun j => j = w.heap.size + 1) (Upd.setCell (F := fun j => j = w.heap.size + 1) (Upd.refl _ w3) (p := ⟨w.heap.size + 1, 0, none⟩) (.inl rfl) _) (p := ⟨w.heap.size + 1, 1, none⟩) (.inl rfl) _
  have hz1 := HU1.out.size
  have hz2 := HU2.out.size
  have hz12 : w.heap.size + 2 ≤ w1.heap.size := by have := HRES1.out.lt; omega
  have hlz := huz.size
  have ho3 : ∀ k, Value.ownBlock (.slice A3 (L.length + 1) c3) = some k → w.heap.size + 2 ≤ k ∧ k < w3.heap.size := fun k hk => by
    refine ⟨?_, ?_⟩
    · rcases hat3 with h | h
      · rw [h] at hk; have := hk1 k hk; omega
      · rw [h] at hk; have := Option.some.inj hk; simp at this; omega
    · rcases hown3.2 with ⟨e, _⟩ | ⟨g', cap, cur, e, _, hgg, _⟩
      · rw [e] at hk; exact (no_own_nil k hk).elim
      · rw [e] at hk
        simp [Value.ownBlock] at hk
        subst hk
        exact (Array.getElem?_eq_some_iff.1 hgg).1
  refine bodyPost_ret (v := .tuple #[.agg #[.slice A3 (L.length + 1) c3, .int .u64 slot], .int .i64 0]) (by simp [results, Try.results10, go_sem, q0, q1]) rfl ⟨_, .slice A2 (listK cfg 7).length c2, rfl, h03.trans huz (fun i hi e => by omega), ?_⟩
  refine ⟨?_, fun x hx => ?_⟩
  · have hso := ((Sl.own hown3).upd huz (fun g hg e => by have := ho3 g hg; omega)).more (G := fun g => G g ∨ (w.heap.size ≤ g ∧ g < ((w3.setCell ⟨w.heap.size + 1, 0, none⟩ (.slice A3 (L.length + 1) c3)).setCell ⟨w.heap.size + 1, 1, none⟩ (.int .u64 slot)).heap.size)) (fun g hg => .inr (by have := ho3 g hg; omega))
    rw [List.length_append, List.flatMap_append]
    simpa [xCells] using hso
  · rcases List.mem_append.1 hx with hx | hx
    · obtain ⟨x1, x2⟩ := HD.out.2 x hx
      exact ⟨((x1.upd h03 (fun _ _ h => h)).upd huz (fun g hg e => by have := HG.out g hg; omega)).more (fun g hg => .inl hg), ((x2.upd h03 (fun _ _ h => h)).upd huz (fun g hg e => by have := HG.out g hg; omega)).more (fun g hg => .inl hg)⟩
    · rw [List.mem_singleton] at hx
      subst hx
      refine ⟨?_, Sl.nil _ _ _⟩
      have hv2l : ∀ k, Value.ownBlock (.slice A2 (listK cfg 7).length c2) = some k → k < w2.heap.size := fun k hk => by
        rcases HO2.out.2 with ⟨e, _⟩ | ⟨g', cap, cur, e, _, hgg, _⟩
        · rw [e] at hk; exact (no_own_nil k hk).elim
        · rw [e] at hk
          simp [Value.ownBlock] at hk
          subst hk
          exact (Array.getElem?_eq_some_iff.1 hgg).1
      have h23z := h23.size
      exact (((Sl.own HO2.out).upd h23 (fun g hg h => by have h1 := HV2.out g hg; have h2 := hk1l g h; omega)).upd huz (fun g hg e => by have h1 := HV2.out g hg; omega)).more (fun g hg => .inr (by have h1 := HV2.out g hg; have h2 := hv2l g hg; omega))

end Go.Proofs.Ytbnmildjamjjmaa
