/-
  Package chain, the calls that write: New, Push, Clone, Copy, Release. Conditions: the chain's numbers lie within the document's bounds.
-/
import Derived.Test.YtkcehpnppfmfnaaChainA
import Derived.Deep.RegionHeld3
namespace Go.Proofs.Ytkcehpnppfmfnaa
open Go.RowKit

theorem infoSet : (Try.prog.info? 27).map (fun i => (i.zero, i.size, i.bytes)) = some (some (.int .u8 0), 1, 1) := by kernel_rfl

/-- What a call leaves of one chain: its new blocks, and that nothing else has changed. -/
def ChnTo (w : World) (F : Nat → Prop) (p : Value) (low : Nat) (L : List Int) (w' : World) : Prop :=
  Upd F w w' ∧ ∃ F', (∀ k, F' k → (F k ∨ w.heap.size ≤ k)) ∧ Chn w' F' p low L

theorem Chn.lt {w : World} {F : Nat → Prop} {p : Value} {low : Nat} {L : List Int} (h : Chn w F p low L) : ∃ G, (∀ k, G k → F k ∧ k < w.heap.size) ∧ Chn w G p low L := by
  obtain ⟨b, v, rfl, hF, hb, ho, hv⟩ := h
  exact ⟨fun k => F k ∧ k < w.heap.size, fun k h => h, b, v, rfl, ⟨hF, hb.lt⟩, hb, ho, fun g hg => ⟨hv g hg, (ho.lt g hg).2⟩⟩

theorem push_nil (s : Int) (w : World) : Calls Try.prog 15 #[.pointer none, .int .u8 s] w fun e w' => e = .returned (.int .i64 1) ∧ w = w' := by
  go_enter Try.func15, Try.ntmps15
  go_wp2_with fail
  go_ret
  exact ⟨rfl, rfl⟩

theorem push_bad (b : Nat) (s : Int) (w : World) (h0 : 0 ≤ s) (h1 : s ≤ 255) (hd : dirB s = false) :
    Calls Try.prog 15 #[.pointer (some ⟨b, 0, none⟩), .int .u8 s] w fun e w' => e = .returned (.int .i64 2) ∧ w = w' := by
  have hD := dir_any s w h0 h1
  rw [hd] at hD
  have HD := Lib.hid hD
  clear hD hd
  go_enter Try.func15, Try.ntmps15
  go_wp2_with fail
  refine HD.out.mono ?_
  rintro e w' ⟨rfl, rfl⟩
  go_wp2_with fail
  go_ret
  exact ⟨rfl, rfl⟩

theorem push_full {w : World} {F : Nat → Prop} {p : Value} {low : Nat} {L : List Int} (h : Chn w F p low L) (hok : ChnOk low L) (s : Int) (h0 : 0 ≤ s) (h1 : s ≤ 255) (hd : dirB s = true) (hf : 4611686018427387904 < low + L.length) :
    Calls Try.prog 15 #[p, .int .u8 s] w fun e w' => e = .returned (.int .i64 7) ∧ ∃ n, w' = w.drewN n := by
  have hD := dir_any s w h0 h1
  rw [hd] at hD
  have hT := top_any h hok
  obtain ⟨b, v, rfl, _⟩ := h
  have HD := Lib.hid hD
  have HT := Lib.hid hT
  clear hD hd hT
  generalize L.length = n at *
  go_enter Try.func15, Try.ntmps15
  go_wp2_with fail
  refine HD.out.mono ?_
  rintro e w' ⟨rfl, rfl⟩
  go_wp2_with fail
  refine HT.out.mono ?_
  rintro e w' ⟨rfl, nq, rfl⟩
  go_wp2_with fail
  go_ret
  exact ⟨rfl, _, rfl⟩

set_option maxHeartbeats 1000000 in
theorem push_ok {w : World} {F : Nat → Prop} {p : Value} {low : Nat} {L : List Int} (h : Chn w F p low L) (hok : ChnOk low L) (s : Int) (h0 : 0 ≤ s) (h1 : s ≤ 255) (hd : dirB s = true) (hf : low + L.length ≤ 4611686018427387904) (hl : L.length ≤ 1000000) :
    Calls Try.prog 15 #[p, .int .u8 s] w fun e w' => e = .returned (.int .i64 0) ∧ ChnTo w F p low (L ++ [s]) w' := by
  have hD := dir_any s w h0 h1
  rw [hd] at hD
  have hT := top_any h hok
  obtain ⟨b, v, rfl, hF, hb, ho, hv⟩ := h
  have HD := Lib.hid hD
  have HT := Lib.hid hT
  clear hD hd hT
  obtain ⟨A, c, rfl, hn, hc⟩ := own_shape ho
  obtain ⟨i0, hi0, hz0, hz1, hz2⟩ := info_parts infoSet
  have hne : Value.ownBlock (.slice A L.length c) ≠ some b := own_blk_ne ho hb (by decide)
  have HN := Lib.hid hne
  clear hne
  unfold maxLen at hc
  go_enter Try.func15, Try.ntmps15
  go_wp2_with fail
  refine HD.out.mono ?_
  rintro e w' ⟨rfl, rfl⟩
  go_wp2_with fail
  refine HT.out.mono ?_
  rintro e w0 ⟨rfl, nq, hw0⟩
  have hb0 : Blk w0 b 58 #[.int .u64 (low : Int), .slice A L.length c] := by rw [hw0]; exact hb
  have ho0 : w0.ownsRow 0 27 1 (.slice A L.length c) L.length (L.map (Value.int .u8)) := by rw [hw0]; exact ho
  have hu0 : Upd F w w0 := by rw [hw0]; exact (Upd.refl _ _).drewN _
  have c0 : w0.cell? ⟨b, 1, none⟩ = some (.slice A L.length c) := hb0.cell 1
  have hlt := hb0.lt
  clear hw0
  go_wp2_with (first
    | (at_builtin
       go_must (refine wpList_append_sl _ rfl (.tmp 20) (.tmp 22) _ rfl 27 i0 (.int .u8 0) 1 1 Try.underlying56 hi0 hz0 hz1 hz2 rfl (by omega) (.slice A L.length c) L.length (L.map (Value.int .u8)) rfl (ho0.alloc _) _ _ 1 [.int .u8 s] rfl (Sl.one _ _ _) (by simp [Value.oneCell']) (by simp only [maxLen]; omega) (by omega) ?_)
       intro v1 w1 hown1 hg1 hat1
       obtain ⟨A1, c1, rfl, hn1, hc1⟩ := own_shape hown1
       have k0 : w1.cell? ⟨b, 1, none⟩ = some (.slice A L.length c) := ((hb0.alloc _).grown hg1 (fun e => HN.out e.symm)).cell 1
       have k1 : w1.frozen? ⟨b, 1, none⟩ = false := ((hb0.alloc _).grown hg1 (fun e => HN.out e.symm)).frozen 1
       ))
  go_ret
  refine ⟨rfl, ?_, fun k => F k ∨ w.heap.size ≤ k, fun k hk => hk, b, .slice A1 (L.length + 1) c1, rfl, .inl hF, ?_, ?_, ?_⟩
  · exact ((hu0.alloc _).grown hg1 (fun k hk => .inl (hv k hk))).setCell (.inl hF) _
  · exact ((hb0.alloc _).grown hg1 (fun e => HN.out e.symm)).set_ 1 _
  · have : Value.ownBlock (.slice A1 (L.length + 1) c1) ≠ some b := own_blk_ne hown1 ((hb0.alloc _).grown hg1 (fun e => HN.out e.symm)) (by decide)
    have := ownsRow_setCell_other (a := ⟨b, 1, none⟩) hown1 this (.slice A1 (L.length + 1) c1)
    simpa using this
  · intro g hg
    have hs := hu0.size
    rcases hat1 with h | h
    · rw [h] at hg; exact .inl (hv g hg)
    · rw [h] at hg; simp at hg; right; omega

theorem new_bad (s : Int) (w : World) (h0 : 0 ≤ s) (h1 : s ≤ 255) (hd : dirB s = false) :
    Calls Try.prog 22 #[.int .u8 s] w fun e w' => e = .returned (.tuple #[.pointer none, .int .i64 2]) ∧ w = w' := by
  have hD := dir_any s w h0 h1
  rw [hd] at hD
  have HD := Lib.hid hD
  clear hD hd
  go_enter Try.func22, Try.ntmps22
  go_wp2_with fail
  refine HD.out.mono ?_
  rintro e w' ⟨rfl, rfl⟩
  go_wp2_with fail
  go_ret2
  exact ⟨rfl, rfl⟩

/-- A chain in new blocks; nothing that was there has changed. -/
def ChnNew (w : World) (p : Value) (low : Nat) (L : List Int) (w' : World) : Prop :=
  Upd (fun _ => False) w w' ∧ ∃ F', (∀ k, F' k → w.heap.size ≤ k ∧ k < w'.heap.size) ∧ Chn w' F' p low L

theorem new_ok (s : Int) (w : World) (h0 : 0 ≤ s) (h1 : s ≤ 255) (hd : dirB s = true) :
    Calls Try.prog 22 #[.int .u8 s] w fun e w' => ∃ p, e = .returned (.tuple #[p, .int .i64 0]) ∧ ChnNew w p 0 [s] w' := by
  have hD := dir_any s w h0 h1
  rw [hd] at hD
  have HD := Lib.hid hD
  clear hD hd
  go_enter Try.func22, Try.ntmps22
  go_wp2_with fail
  refine HD.out.mono ?_
  rintro e w' ⟨rfl, rfl⟩
  go_wp2_with fail
  go_ret2
  refine ⟨_, rfl, ((Upd.refl _ _).alloc _).alloc _, fun k => w.heap.size ≤ k ∧ k < w.heap.size + 2, ?_, w.heap.size + 1, .slice (some ⟨w.heap.size, 0, none⟩) 1 1, rfl, ?_, ?_, ?_, ?_⟩
  · intro k hk; simp; omega
  · omega
  · exact Blk.newAt _ _ _ (by simp)
  · exact (World.ownsRow_lit w #[.int .u8 s] 1 (Nat.zero_le _) (by simp [maxLen]) rfl).alloc _
  · intro g hg; simp [Value.ownBlock] at hg; omega

theorem clone_nil (w : World) : Calls Try.prog 32 #[.slice none 0 0] w fun e w' => e = .returned (.slice none 0 0) ∧ w = w' := by
  have hq : ∀ wx, (binOp .eql 56 (.slice none 0 0) (.slice none 0 0)).run Try.prog wx = .ok (.bool true) wx := fun wx => Lib.run_eql_slice_nil wx 56 27 none 0 0 0 0 Try.underlying56
  go_enter Try.func32, Try.ntmps32
  go_wp2_with fail
  go_ret
  exact ⟨rfl, rfl⟩

set_option maxHeartbeats 1000000 in
theorem clone_any {w : World} {F : Nat → Prop} {v : Value} {n : Nat} {xs : List Value} (h : Sl w F 1 v n xs) (h1 : ∀ u ∈ xs, u.oneCell' = true) (hl : n ≤ 1000000) :
    Calls Try.prog 32 #[v] w fun e w' => ∃ v', e = .returned v' ∧ w'.ownsRow 0 27 1 v' n xs ∧ Upd (fun _ => False) w w' ∧ (∀ g, v'.ownBlock = some g → w.heap.size ≤ g) := by
  obtain ⟨i0, hi0, hz0, hz1, hz2⟩ := info_parts infoSet
  obtain ⟨hx, A, c, rfl, hc, hm, hA, hcell⟩ := id h
  have hq : ∀ wx, (binOp .eql 56 (.slice A n c) (.slice none 0 0)).run Try.prog wx = .ok (.bool A.isNone) wx := fun wx => Lib.run_eql_slice_nil wx 56 27 A n c 0 0 Try.underlying56
  cases A with
  | none =>
    have hc0 := hA rfl
    have hn0 : n = 0 := by omega
    subst hc0 hn0
    have hxs : xs = [] := List.eq_nil_of_length_eq_zero (by simpa using hx)
    subst hxs
    refine (clone_nil w).mono ?_
    rintro e w' ⟨rfl, rfl⟩
    exact ⟨_, rfl, World.ownsRow_nil _ _ _ _, Upd.refl _ _, fun g hg => by simp [Value.ownBlock] at hg⟩
  | some a =>
    clear hx hA hcell
    have hR := World.ownsRow_lit (base := 0) (e := 27) (size := 1) w #[] 0 (Nat.zero_le _) (by simp [maxLen]) rfl
    have HH := Lib.hid h
    clear h
    unfold maxLen at hm
    go_enter Try.func32, Try.ntmps32
    go_wp2_with (first
      | (at_builtin
         go_must (refine wpList_append_sl _ rfl (.tmp 5) (.tmp 6) _ rfl 27 i0 (.int .u8 0) 1 1 Try.underlying56 hi0 hz0 hz1 hz2 rfl (by omega) (.slice (some ⟨w.heap.size, 0, none⟩) 0 0) 0 [] rfl hR F _ n xs rfl (HH.out.alloc _) h1 (by simp only [maxLen]; omega) (by omega) ?_)
         intro v1 w1 hown1 hg1 hat1))
    go_ret
    refine ⟨v1, rfl, by simpa using hown1, ((Upd.refl _ _).alloc _).grown hg1 ?_, fun g hg => ?_⟩
    · intro k hk; simp [Value.ownBlock] at hk; right; omega
    · rcases hat1 with h | h <;> rw [h] at hg <;> simp [Value.ownBlock] at hg <;> omega

theorem copy_nil (w : World) : Calls Try.prog 21 #[.pointer none] w fun e w' => e = .returned (.pointer none) ∧ w = w' := by
  go_enter Try.func21, Try.ntmps21
  go_wp2_with fail
  go_ret
  exact ⟨rfl, rfl⟩

set_option maxHeartbeats 1000000 in
theorem copy_any {w : World} {F : Nat → Prop} {p : Value} {low : Nat} {L : List Int} (h : Chn w F p low L) (hl : L.length ≤ 1000000) :
    Calls Try.prog 21 #[p] w fun e w' => ∃ q, e = .returned q ∧ ChnNew w q low L w' := by
  obtain ⟨b, v, rfl, hF, hb, ho, hv⟩ := h
  obtain ⟨A, c, rfl, hn, hc⟩ := own_shape ho
  have hS := Sl.own ho
  have hltb := hb.lt
  have c0 : w.cell? ⟨b, 0, none⟩ = some (.int .u64 (low : Int)) := hb.cell 0
  have c1 : w.cell? ⟨b, 1, none⟩ = some (.slice A L.length c) := hb.cell 1
  have HC := fun (wx : World) (hu : Below w.heap.size w wx) => clone_any (hS.below (w' := wx) hu (fun k hk => (ho.lt k hk).2)) (ones_one .u8 L) hl
  have HCH := Lib.hid HC
  clear HC
  unfold maxLen at hc
  go_enter Try.func21, Try.ntmps21
  go_wp2_with fail
  have hK : ∀ wx, Below w.heap.size w wx → Below w.heap.size w wx ∧ wx.cell? ⟨b, 0, none⟩ = some (.int .u64 (low : Int)) ∧ wx.cell? ⟨b, 1, none⟩ = some (.slice A L.length c) :=
    fun wx hu => ⟨hu, (hu.cell (p := ⟨b, 0, none⟩) hltb).trans c0, (hu.cell (p := ⟨b, 1, none⟩) hltb).trans c1⟩
  have HK := Lib.hid hK
  clear hK
  go_region_held3 (fun wx => Below w.heap.size w wx ∧ wx.cell? ⟨b, 0, none⟩ = some (.int .u64 (low : Int)) ∧ wx.cell? ⟨b, 1, none⟩ = some (.slice A L.length c))
    (first
      | exact HK.out _ (Below.refl _ _).drew
      | exact HK.out _ ((Below.refl _ w).drew.trans hu1.below)
      | exact HK.out _ (((Below.refl _ w).drew.trans hu1.below).alloc hu1.size _))
    (first
      | (go_at_call 32; refine (HCH.out _ (Below.refl _ _).drew).mono ?_; rintro e w1 ⟨v1, rfl, hown1, hu1, hv1⟩; obtain ⟨A1, c1', rfl, hn1, hc1'⟩ := own_shape hown1))
  go_wp2
  go_ret
  refine ⟨_, rfl, ((Upd.refl _ _).drew.trans hu1 (fun _ _ h => h)).alloc _, fun k => w.heap.size ≤ k ∧ k < w1.heap.size + 1, ?_, w1.heap.size, .slice A1 L.length c1', rfl, ?_, Blk.new _ _ _, hown1.alloc _, ?_⟩
  · intro k hk; simp; omega
  · exact ⟨hu1.size, by omega⟩
  · intro g hg
    exact ⟨hv1 g hg, by have := (hown1.lt g hg).2; omega⟩

theorem rel_nil (s : Int) (w : World) : Calls Try.prog 17 #[.pointer none, .int .u64 s] w fun e w' => e = .returned (.int .i64 1) ∧ w = w' := by
  go_enter Try.func17, Try.ntmps17
  go_wp2_with fail
  go_ret
  exact ⟨rfl, rfl⟩

theorem rel_far {w : World} {F : Nat → Prop} {p : Value} {low : Nat} {L : List Int} (h : Chn w F p low L) (hok : ChnOk low L) (s : Int) (hf : (low : Int) + (L.length : Int) ≤ s) :
    Calls Try.prog 17 #[p, .int .u64 s] w fun e w' => e = .returned (.int .i64 13) ∧ ∃ n, w' = w.drewN n := by
  have hT := top_any h hok
  obtain ⟨b, v, rfl, _⟩ := h
  have HT := Lib.hid hT
  clear hT
  generalize L.length = n at *
  go_enter Try.func17, Try.ntmps17
  go_wp2_with fail
  refine HT.out.mono ?_
  rintro e w' ⟨rfl, nq, rfl⟩
  go_wp2_with fail
  go_ret
  exact ⟨rfl, _, rfl⟩

/-- The low end behind a release up to a base. -/
def relLow (low : Nat) (base : Int) : Nat := max low (bh (base + 1)).toNat

theorem rel_end {w w1 : World} {F : Nat → Prop} {b low r n : Nat} {v : Value} {x y : Value} {M : List Int} (hF : F b) (hM : M.length = n) (hu : Upd (fun _ => False) w w1) (hb : Blk w1 b 58 #[x, y])
    (ho : w1.ownsRow 0 27 1 v n (M.map (Value.int .u8))) (hv : ∀ g, v.ownBlock = some g → w.heap.size ≤ g) :
    ChnTo w F (.pointer (some ⟨b, 0, none⟩)) (low + r) M ((w1.setCell ⟨b, 1, none⟩ v).setCell ⟨b, 0, none⟩ (.int .u64 ((low : Int) + (r : Int)))) := by
  subst hM
  have hne : v.ownBlock ≠ some b := own_blk_ne ho hb (by decide)
  refine ⟨((hu.mono (fun _ _ h => h.elim)).setCell (p := ⟨b, 1, none⟩) (.inl hF) _).setCell (p := ⟨b, 0, none⟩) (.inl hF) _, fun k => F k ∨ w.heap.size ≤ k, fun k hk => hk, b, v, rfl, .inl hF, ?_, ?_, fun g hg => .inr (hv g hg)⟩
  · simpa using (hb.set_ 1 v).set_ 0 (.int .u64 ((low : Int) + (r : Int)))
  · exact ownsRow_setCell_other (a := ⟨b, 0, none⟩) (ownsRow_setCell_other (a := ⟨b, 1, none⟩) ho hne _) hne _

set_option maxHeartbeats 2000000 in
theorem rel_ok {w : World} {F : Nat → Prop} {p : Value} {low : Nat} {L : List Int} (h : Chn w F p low L) (hok : ChnOk low L) (s : Int) (h0 : 0 ≤ s) (hf : s < (low : Int) + (L.length : Int)) (hl : L.length ≤ 1000000) :
    Calls Try.prog 17 #[p, .int .u64 s] w fun e w' => e = .returned (.int .i64 0) ∧ ChnTo w F p (relLow low s) (L.drop (relLow low s - low)) w' := by
  have hT := top_any h hok
  obtain ⟨k0, k1, k2⟩ := hok
  have hBH := fun wx => behind_any (s + 1) wx (by omega) (by omega)
  by_cases hlo : bh (s + 1) ≤ (low : Int)
  · have e1 : relLow low s = low := by unfold relLow; omega
    rw [e1, Nat.sub_self, List.drop_zero]
    have h' := h
    obtain ⟨b, v, rfl, hF, hb, ho, hv⟩ := h
    generalize bh (s + 1) = r at *
    have c0 : w.cell? ⟨b, 0, none⟩ = some (.int .u64 (low : Int)) := hb.cell 0
    clear hb ho hv
    have HT := Lib.hid hT
    have HB := Lib.hid hBH
    have HC := Lib.hid h'
    clear hT hBH e1 h'
    generalize hn : L.length = n at *
    clear hn
    go_enter Try.func17, Try.ntmps17
    go_wp2_with fail
    refine HT.out.mono ?_
    rintro e w' ⟨rfl, nq, rfl⟩
    go_wp2_with fail
    refine (HB.out _).mono ?_
    rintro e w' ⟨rfl, rfl⟩
    go_wp2_with fail
    go_ret
    exact ⟨rfl, (Upd.refl _ _).drewN _, F, fun k hk => .inl hk, HC.out⟩
  · obtain ⟨r, hr⟩ : ∃ r : Nat, bh (s + 1) = (low : Int) + (r : Int) := ⟨(bh (s + 1) - (low : Int)).toNat, by omega⟩
    have e1 : relLow low s = low + r := by unfold relLow; omega
    have hrl : r < L.length := by
      have : bh (s + 1) ≤ s := by unfold bh; split <;> omega
      omega
    rw [e1, Nat.add_sub_cancel_left]
    rw [hr] at hBH
    have r0 : 0 < r := by omega
    clear hlo hr e1
    obtain ⟨b, v, rfl, hF, hb, ho, hv⟩ := h
    have hltb := hb.lt
    have hne : v.ownBlock ≠ some b := own_blk_ne ho hb (by decide)
    obtain ⟨g, c, rfl, hn, hc, _⟩ := own_cell ho (show 0 < L.length by omega)
    have hS := (Sl.own ho).cut (k := r) (by omega)
    have c0 : w.cell? ⟨b, 0, none⟩ = some (.int .u64 (low : Int)) := hb.cell 0
    have c1 : w.cell? ⟨b, 1, none⟩ = some (.slice (some ⟨g, 0, none⟩) L.length c) := hb.cell 1
    have hrc : ¬ c = r := by omega
    rw [if_neg hrc] at hS
    simp only [Option.map_some, Addr.add, if_neg (show ¬ r = 0 by omega), Nat.zero_add] at hS
    rw [← List.map_drop] at hS
    have HCH := fun (wx : World) (hu : Below w.heap.size w wx) => clone_any (hS.below (w' := wx) hu (fun k hk => (ho.lt k hk).2)) (ones_one .u8 _) (by omega)
    have hld : (L.drop r).length = L.length - r := List.length_drop
    have HLD := Lib.hid hld
    clear hld
    have HT := Lib.hid hT
    have HB := Lib.hid hBH
    have HC := Lib.hid HCH
    have HN := Lib.hid hne
    clear hT hBH HCH hS hne hrc
    unfold maxLen at hc
    have j0 : (low : Int) < (low : Int) + (r : Int) := by omega
    have j1 : (r : Int) < (L.length : Int) := by omega
    have j2 : (L.length : Int) ≤ (c : Int) := by omega
    have a1 : IntKind.u64.wrap ((low : Int) + (r : Int) - (low : Int)) = (r : Int) := by rw [show (low : Int) + (r : Int) - (low : Int) = (r : Int) from by omega]; exact IntWalk.u64_in _ ⟨by omega, by omega⟩
    generalize hM : L.drop r = M at *
    generalize hN : L.length = n at *
    go_enter Try.func17, Try.ntmps17
    go_wp2_with fail
    refine HT.out.mono ?_
    rintro e w0 ⟨rfl, nq, hw0⟩
    have hb0 : Blk w0 b 58 #[.int .u64 (low : Int), .slice (some ⟨g, 0, none⟩) n c] := by rw [hw0]; exact hb
    have hu0 : Upd (fun _ => False) w w0 := by rw [hw0]; exact (Upd.refl _ _).drewN _
    clear hw0 c0 c1
    have c0 : w0.cell? ⟨b, 0, none⟩ = some (.int .u64 (low : Int)) := hb0.cell 0
    have c1 : w0.cell? ⟨b, 1, none⟩ = some (.slice (some ⟨g, 0, none⟩) n c) := hb0.cell 1
    have HU0 := Lib.hid hu0.below
    have HB0 := Lib.hid hb0
    go_wp2_with fail
    refine (HB.out _).mono ?_
    rintro e w' ⟨rfl, rfl⟩
    go_wp2_with fail
    go_region_with (first
      | (go_at_call 32
         refine (HC.out _ HU0.out.drew).mono ?_
         rintro e w1 ⟨v1, rfl, hown1, hu1, hv1⟩
         obtain ⟨A1, c1', rfl, hn1, hc1'⟩ := own_shape hown1
         have HU1 := Lib.hid hu1
         have HO1 := Lib.hid hown1
         have d0 : w1.frozen? ⟨b, 0, none⟩ = false := ((show Blk w0.drew b _ _ from HB0.out).upd HU1.out id).frozen 0
         have d1 : w1.frozen? ⟨b, 1, none⟩ = false := ((show Blk w0.drew b _ _ from HB0.out).upd HU1.out id).frozen 1
         have d2 : w1.cell? ⟨b, 0, none⟩ = some (.int .u64 (low : Int)) := ((show Blk w0.drew b _ _ from HB0.out).upd HU1.out id).cell 0
         have d3 : w1.cell? ⟨b, 1, none⟩ = some (.slice (some ⟨g, 0, none⟩) n c) := ((show Blk w0.drew b _ _ from HB0.out).upd HU1.out id).cell 1
         clear hu1 hown1 c0 c1))
    all_goals
      go_wp2
      go_ret
      refine ⟨rfl, rel_end hF HLD.out ((show Upd (fun _ => False) w w0.drew from (Upd.of_below HU0.out).drew).trans HU1.out (fun _ _ h => h)) ((show Blk w0.drew b _ _ from HB0.out).upd HU1.out id) HO1.out ?_⟩
      intro g hg
      exact Nat.le_trans HU0.out.size (hv1 g hg)

end Go.Proofs.Ytkcehpnppfmfnaa
