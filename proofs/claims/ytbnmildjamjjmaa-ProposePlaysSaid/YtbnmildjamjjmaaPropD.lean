/-
  slices.Sort of at most one number; slices.Sorted of a desk's keys and All, over what slices.Sort is known to do. Conditions: a bound on how many open slots there are.
-/
import Derived.Test.YtbnmildjamjjmaaPropC
import Derived.Test.YtbnmildjamjjmaaLenU
namespace Go.Proofs.Ytbnmildjamjjmaa
open Go.RowKit Go.Maps

/-- slices.Sort sorts up to so many numbers. -/
def SortOk (N : Nat) : Prop := ∀ (w : World) (base : Nat) (v : Value) (ss : List Int), ss.length ≤ N → (∀ x ∈ ss, (Lit.int .u64 x).wf = true) → w.ownsRow base 28 1 v ss.length (ss.map (Value.int .u64)) →
  Calls Try.prog 38 #[v] w fun e w' => e = .returned (.tuple #[]) ∧ ∃ ts : List Int, ts.Perm ss ∧ ts.Pairwise (· ≤ ·) ∧ w'.ownsRow base 28 1 v ts.length (ts.map (Value.int .u64)) ∧ Upd (fun k => v.ownBlock = some k) w w'

theorem ins_one (A : Option Addr) (c : Nat) (n : Nat) (hn : n ≤ 1) (w : World) :
    Calls Try.prog 43 #[.slice A n c, .int .i64 0, .int .i64 (n : Int)] w fun e w' => e = .returned (.tuple #[]) ∧ w = w' := by
  have h : ¬ (1 : Int) < (n : Int) := by omega
  go_enter Try.func43, Try.ntmps43
  go_wp2
  refine wp_loop_rounds 1 ?_
  rw [rounds_succ]
  go_wp2
  go_end0
  exact ⟨rfl, rfl⟩

set_option maxRecDepth 100000 in
theorem pdq_one (A : Option Addr) (c : Nat) (n : Nat) (hn : n ≤ 1) (lim : Int) (w : World) :
    Calls Try.prog 41 #[.slice A n c, .int .i64 0, .int .i64 (n : Int), .int .i64 lim] w fun e w' => e = .returned (.tuple #[]) ∧ w = w' := by
  have h : (n : Int) ≤ 12 := by omega
  have HI := Lib.hid (ins_one A c n hn)
  go_enter Try.func41, Try.ntmps41
  go_wp2_with fail
  refine wp_loop_rounds 1 ?_
  rw [rounds_succ]
  go_wp2_with fail
  refine (HI.out _).mono ?_
  rintro e w' ⟨rfl, rfl⟩
  go_wp2_with fail
  exact bodyPost_ret (results_none rfl _ _ _) rfl ⟨rfl, rfl⟩

theorem sort_one : SortOk 1 := by
  intro w base v ss hl _ ho
  obtain ⟨A, c, rfl, h1, h2⟩ := row_shape ho
  have HO := Lib.hid ho
  obtain ⟨n, hn⟩ : ∃ n, ss.length = n := ⟨_, rfl⟩
  have HN := Lib.hid hn
  rw [hn] at hl h1 ⊢
  have HB := Lib.hid (bits_Len n w (by omega))
  clear ho hn
  unfold maxLen at h2
  have hn' : (n : Int) ≤ 1 := by omega
  go_enter Try.func38, Try.ntmps38
  go_wp2_with fail
  refine HB.out.mono ?_
  rintro e w' ⟨rfl, rfl⟩
  go_wp2_with fail
  refine (pdq_one A c n hl _ _).mono ?_
  rintro e w' ⟨rfl, rfl⟩
  go_wp2_with fail
  go_end0
  refine ⟨rfl, ss, List.Perm.refl _, ?_, by rw [HN.out]; have := HO.out; rw [HN.out] at this; exact this, Upd.refl _ _⟩
  have := HN.out
  match ss, this with
  | [], _ => exact List.Pairwise.nil
  | [a], _ => exact List.pairwise_singleton _ _
  | _ :: _ :: _, h => simp at h; omega

theorem ups_of_perm {ss ts : List Int} (hp : ts.Perm ss) (h1 : ts.Pairwise (· ≤ ·)) (h2 : ss.Pairwise (· < ·)) : ts = ss :=
  List.Perm.eq_of_pairwise (le := (· ≤ ·)) (fun _ _ _ _ h1 h2 => Int.le_antisymm h1 h2) h1 (h2.imp (fun h => Int.le_of_lt h)) hp

/-- slices.Sorted of a desk's keys: the slots, rising. -/
theorem sorted_any {N : Nat} (hS : SortOk N) {w : World} {Bm b nn : Nat} {D : DataW PO} {M : List PO} (hR : Reads D M) (hr : Rising M) (hl : M.length ≤ 100000) (hN : M.length ≤ N) (hBm : Blk w Bm 64 #[.map (some b)]) (hown : w.ownsMap Try.prog 28 oR b nn D) :
    Calls Try.prog 32 #[.func (.func 39) #[] #[.pointer (some ⟨Bm, 0, none⟩)]] w fun e w' => ∃ v : Value, e = .returned v ∧
      w'.ownsRow w.heap.size 28 1 v M.length (M.map fun o => Value.int .u64 o.slot) ∧ Below w.heap.size w w' := by
  have HC := Lib.hid (collect_in hR hr hl hBm hown)
  have HS := Lib.hid hS
  have HR := Lib.hid hr
  clear hR hr hBm hown hS
  go_enter Try.func32, Try.ntmps32
  go_wp2_with fail
  refine HC.out.mono ?_
  rintro e w1 ⟨v, ss, rfl, hp, ho, hbe⟩
  have hwf : ∀ x ∈ ss, (Lit.int .u64 x).wf = true := fun x hx => by
    obtain ⟨o, ho, e⟩ := List.mem_map.1 (hp.mem_iff.1 hx)
    rw [← e]; exact HR.out.2 o ho
  have hlen : ss.length = M.length := by rw [hp.length_eq]; simp
  have HSS := Lib.hid (HS.out w1 w.heap.size v ss (by omega) hwf ho)
  have HO := Lib.hid ho
  have HB := Lib.hid hbe
  have HP := Lib.hid hp
  clear ho hbe hp hwf hlen
  go_wp2_with fail
  refine HSS.out.mono ?_
  rintro e w2 ⟨rfl, ts, hpt, hsort, ho2, hu2⟩
  have hpp := hpt.trans HP.out
  have hts : ts = M.map PO.slot := ups_of_perm hpp hsort (List.pairwise_map.2 HR.out.1)
  have hb2 : Below w.heap.size w w2 := ⟨hu2.os.trans HB.out.os, hu2.tape.trans HB.out.tape, hu2.output.trans HB.out.output, Nat.le_trans HB.out.size hu2.size, fun k hk => (hu2.block k (Nat.lt_of_lt_of_le hk HB.out.size) (fun h => by have := (HO.out.lt k h).1; omega)).trans (HB.out.block k hk)⟩
  rw [hts, List.map_map, List.length_map] at ho2
  have HO2 := Lib.hid ho2
  have HB2 := Lib.hid hb2
  clear hpt hsort hu2 hpp hts ho2 hb2
  go_wp2_with fail
  go_ret
  exact ⟨v, rfl, HO2.out, HB2.out⟩

end Go.Proofs.Ytbnmildjamjjmaa
