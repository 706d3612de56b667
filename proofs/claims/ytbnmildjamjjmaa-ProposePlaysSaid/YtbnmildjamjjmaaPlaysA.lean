/-
  ProposePlays: Open of the reference with all outcomes; what both desks have to do with each other; the memory that holds both. Conditions: at most 1000 open slots.
-/
import Derived.Test.YtbnmildjamjjmaaRefVoted
import Derived.Test.YtbnmildjamjjmaaRefOpen
namespace Go.Proofs.Ytbnmildjamjjmaa
open Go.RowKit Go.Maps

theorem RDesk.slice {w : World} {G : Nat → Prop} {v : Value} {L : List RX} (h : RDesk w G v L) : ∃ A n c, v = .slice A n c := by
  obtain ⟨A, c, h, _⟩ := h.1.shape
  exact ⟨A, _, c, h⟩

theorem rdopen_any {w : World} {G : Nat → Prop} {v : Value} {L : List RX} (h : RDesk w G v L) (hG : ∀ g, G g → g < w.heap.size) (last slot : Int) (s : ByteArray) (cfg : Int) (hl : L.length ≤ 1000) (s0 : 0 ≤ slot) (c0 : 0 ≤ cfg) (c1 : cfg ≤ 255) :
    Calls Try.prog 10 #[.agg #[v, .int .u64 last], .int .u64 slot, .string s, .int .u8 cfg] w fun e w' => ∃ v' L', e = .returned (.tuple #[.agg #[v', .int .u64 (openL last slot cfg)], .int .i64 (openE slot cfg last)]) ∧ Upd (fun _ => False) w w' ∧ RDesk w' (fun g => G g ∨ (w.heap.size ≤ g ∧ g < w'.heap.size)) v' L' ∧ L'.map RX.px = openX (L.map RX.px) last slot s cfg := by
  obtain ⟨A, n, c, rfl⟩ := h.slice
  unfold openL openX
  have hbd := openBad_dir (cfg := cfg) s0 c0 c1
  cases hb : openBad slot cfg
  · rw [hb] at hbd
    have h1 : ¬ slot < 1 := fun h => Bool.noConfusion (hbd.2 (.inl h))
    have h2 : ¬ 4611686018427387904 < slot := fun h => Bool.noConfusion (hbd.2 (.inr (.inl h)))
    have h3 : dirB cfg = true := by
      cases hd : dirB cfg
      · exact Bool.noConfusion (hbd.2 (.inr (.inr hd)))
      · rfl
    by_cases hst : slot ≤ last
    · have hE : openE slot cfg last = 13 := by unfold openE; rw [hb]; simp [hst]
      rw [hE, if_neg (by decide), if_neg (by decide)]
      exact (rdopen_state A n c last slot s cfg w h1 h2 h3 hst).mono fun e w' ⟨he, hu⟩ => ⟨_, L, he, hu, (h.upd hu (fun _ _ h => h)).more (fun g hg => .inl hg), rfl⟩
    · have hE : openE slot cfg last = 0 := by unfold openE; rw [hb]; simp [hst]
      rw [hE, if_pos rfl, if_pos rfl]
      exact (rdopen_ok h hG last slot s cfg hl h1 h2 h3 hst c0 c1).mono fun e w' ⟨v', vc, he, hu, hd⟩ => ⟨v', _, he, hu, hd, by rw [List.map_append]; rfl⟩
  · rw [hb] at hbd
    have hE : openE slot cfg last = 2 := by unfold openE; rw [hb]; rfl
    rw [hE, if_neg (by decide), if_neg (by decide)]
    exact (rdopen_bad A n c last slot s cfg w (hbd.1 rfl)).mono fun e w' ⟨he, hu⟩ => ⟨_, L, he, hu, (h.upd hu (fun _ _ h => h)).more (fun g hg => .inl hg), rfl⟩

/-- Both desks, behind k acts. -/
structure PInv (M : List PO) (P : List PX) (last : Int) (k : Nat) : Prop where
  rising : Rising M
  le : ∀ o ∈ M, o.slot ≤ last
  rel : RelL M P
  len : M.length ≤ k
  lens : ∀ x ∈ P, x.cfg.length ≤ 7 ∧ x.who.length ≤ k

theorem pInv_nil : PInv [] [] 0 0 := ⟨⟨List.Pairwise.nil, by simp⟩, by simp, trivial, by simp, by simp⟩
section
variable {M : List PO} {P : List PX} {last : Int} {k : Nat}
theorem PInv.open_ (h : PInv M P last k) {slot cfg : Int} (v : ByteArray) (hw : (Lit.int .u64 slot).wf = true) (s0 : 0 ≤ slot) (c0 : 0 ≤ cfg) (c1 : cfg ≤ 255) : PInv (openM M last slot v cfg) (openX P last slot v cfg) (openL last slot cfg) (k + 1) := by
  have hrel := h.rel.open_ (last := last) v s0 c0 c1
  unfold openM openX openL at *
  by_cases e : openE slot cfg last = 0
  · rw [if_pos e, if_pos e] at hrel
    rw [if_pos e, if_pos e, if_pos e]
    have hl : last < slot := by
      unfold openE at e
      split at e
      · omega
      · split at e <;> omega
    refine ⟨⟨List.pairwise_append.2 ⟨h.rising.1, List.pairwise_singleton _ _, fun a ha b hb => ?_⟩, fun o ho => ?_⟩, fun o ho => ?_, hrel, by simp; exact h.len, fun x hx => ?_⟩
    · rw [List.mem_singleton] at hb; subst hb
      have := h.le a ha
      show a.slot < slot
      omega
    · rcases List.mem_append.1 ho with h1 | h1
      · exact h.rising.2 o h1
      · rw [List.mem_singleton] at h1; subst h1; exact hw
    · rcases List.mem_append.1 ho with h1 | h1
      · have := h.le o h1; omega
      · rw [List.mem_singleton] at h1; subst h1; exact Int.le_refl _
    · rcases List.mem_append.1 hx with h1 | h1
      · have := h.lens x h1; omega
      · rw [List.mem_singleton] at h1; subst h1
        exact ⟨listK_len cfg 7, by simp⟩
  · rw [if_neg e, if_neg e] at hrel
    rw [if_neg e, if_neg e, if_neg e]
    exact ⟨h.rising, h.le, hrel, by have := h.len; omega, fun x hx => by have := h.lens x hx; omega⟩
theorem PInv.close (h : PInv M P last k) (s : Int) : PInv (closeM M s) (closeX P s) last (k + 1) :=
  ⟨closeM_rising h.rising s, fun o ho => h.le o (List.mem_filter.1 ho).1, h.rel.close s, by have h1 := h.len; have h2 : (closeM M s).length ≤ M.length := List.length_filter_le _ _; omega,
    fun x hx => by have := h.lens x (List.mem_filter.1 hx).1; omega⟩
theorem PInv.vote (h : PInv M P last k) {n : Int} (n0 : 0 ≤ n) (n1 : n ≤ 255) (s : Int) : PInv (votedP M n s).1 (votedX P n s).1 last (k + 1) ∧ (votedP M n s).2 = (votedX P n s).2 := by
  obtain ⟨hr, he⟩ := h.rel.vote h.rising n0 n1 s
  refine ⟨?_, he⟩
  have hM : Rising (votedP M n s).1 ∧ (∀ o ∈ (votedP M n s).1, o.slot ≤ last) ∧ (votedP M n s).1.length ≤ M.length := by
    unfold votedP
    split
    · exact ⟨h.rising, h.le, Nat.le_refl _⟩
    · split
      · exact ⟨closeM_rising h.rising s, fun o ho => h.le o (List.mem_filter.1 ho).1, List.length_filter_le _ _⟩
      · rename_i o _ _
        refine ⟨setM_rising h.rising _, fun x hx => ?_, by unfold setM; rw [List.length_map]; exact Nat.le_refl _⟩
        have : x.slot ∈ (setM M (votedO o n)).map PO.slot := List.mem_map.2 ⟨x, hx, rfl⟩
        rw [setM_slots] at this
        obtain ⟨y, hy, e⟩ := List.mem_map.1 this
        rw [← e]; exact h.le y hy
  refine ⟨hM.1, hM.2.1, hr, by have := hM.2.2; have := h.len; omega, fun x hx => ?_⟩
  unfold votedX at hx
  split at hx
  · have := h.lens x (List.mem_filter.1 hx).1; omega
  · obtain ⟨y, hy, rfl⟩ := List.mem_map.1 hx
    have := h.lens y hy
    unfold stepX
    split
    · exact ⟨this.1, by show (y.who ++ [n]).length ≤ _; simp; omega⟩
    · omega
end

/-- The memory: both desks. -/
structure PMem (w : World) (FD : Nat → Prop) (p : Value) (bw : Nat) (M : List PO) (last : Int) (v : Value) (L : List RX) (lastR : Int) (wr : World) : Prop where
  upd : Upd (fun _ => False) w wr
  old : ∀ j, FD j → w.heap.size ≤ j ∧ j < bw
  desk : Dsk wr FD p M last
  lo : w.heap.size ≤ bw
  blk : Blk wr bw 30 #[v, .int .u64 lastR]
  ref : RDesk wr (fun g => bw < g ∧ g < wr.heap.size) v L
section
variable {w : World} {FD : Nat → Prop} {p : Value} {bw : Nat} {M : List PO} {last : Int} {v : Value} {L : List RX} {lastR : Int} {wr w' : World}
theorem PMem.step (h : PMem w FD p bw M last v L lastR wr) (hu : Upd (fun _ => False) wr w') : PMem w FD p bw M last v L lastR w' := by
  have hz := hu.size
  exact ⟨h.upd.trans hu (fun _ _ h => h), h.old, h.desk.upd hu (fun _ _ h => h), h.lo, h.blk.upd hu id, (h.ref.upd hu (fun _ _ h => h)).more (fun g hg => by omega)⟩
theorem PMem.onDesk (h : PMem w FD p bw M last v L lastR wr) {M' : List PO} {last' : Int} (hu : Upd FD wr w') (hd : Dsk w' FD p M' last') : PMem w FD p bw M' last' v L lastR w' := by
  have hz := hu.size
  have hlt := h.blk.lt
  exact ⟨upd_new h.upd (fun j hj => (h.old j hj).1) hu, h.old, hd, h.lo, h.blk.upd hu (fun hf => by have := h.old _ hf; omega), (h.ref.upd hu (fun g hg hf => by have := h.old _ hf; omega)).more (fun g hg => by omega)⟩
theorem PMem.onRef (h : PMem w FD p bw M last v L lastR wr) {v' : Value} {L' : List RX} {lastR' : Int} (hu : Upd (fun _ => False) wr w') (hr : RDesk w' (fun g => bw < g ∧ g < w'.heap.size) v' L') :
    PMem w FD p bw M last v' L' lastR' ((w'.setCell ⟨bw, 0, none⟩ v').setCell ⟨bw, 1, none⟩ (.int .u64 lastR')) := by
  have h' := h.step hu
  have hs : Upd (fun j => j = bw) w' ((w'.setCell ⟨bw, 0, none⟩ v').setCell ⟨bw, 1, none⟩ (.int .u64 lastR')) := Upd.setCell (F := fun j => j = bw) (Upd.setCell (F := fun j => j = bw) (Upd.refl _ _) (p := ⟨bw, 0, none⟩) (.inl rfl) _) (p := ⟨bw, 1, none⟩) (.inl rfl) _
  have hz := hs.size
  have hlo := h.lo
  refine ⟨h'.upd.trans hs (fun i hi e => by omega), h.old, h'.desk.upd hs (fun j hj e => by have := h.old j hj; omega), h.lo, ?_, (hr.upd hs (fun g hg e => by omega)).more (fun g hg => by omega)⟩
  simpa using (h'.blk.set_ 0 v').set_ 1 (.int .u64 lastR')
end

end Go.Proofs.Ytbnmildjamjjmaa
