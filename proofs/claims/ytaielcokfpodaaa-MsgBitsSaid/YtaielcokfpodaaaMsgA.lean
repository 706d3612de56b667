/-
  Layer 18, messages: the parts, the kinds. Conditions: none.
-/
import Derived.Test.YtaielcokfpodaaaCmdC
import Derived.Laws.EntriesVeiled
namespace Go.Proofs.Ytaielcokfpodaaa
open Go.RowKit Go.Maps

/-- The functions of a part. -/
def fPut : Pt → Nat
  | .whole => 41 | .name => 48 | .reply => 53 | .node => 59 | .byy => 63 | .base => 72 | .upto => 76 | .slot => 76 | .value => 87 | .votes => 80 | .items => 91
def fTake : Pt → Nat
  | .whole => 43 | .name => 49 | .reply => 55 | .node => 60 | .byy => 65 | .base => 73 | .upto => 77 | .slot => 77 | .value => 88 | .votes => 81 | .items => 92
def fMove : Pt → Nat
  | .whole => 45 | .name => 51 | .reply => 57 | .node => 61 | .byy => 67 | .base => 74 | .upto => 78 | .slot => 78 | .value => 89 | .votes => 82 | .items => 93
def fMay : Pt → Nat
  | .whole => 46 | .name => 52 | .reply => 58 | .node => 62 | .byy => 68 | .base => 75 | .upto => 79 | .slot => 70 | .value => 90 | .votes => 84 | .items => 95
def fv (n : Nat) : Value := .func (.func n) #[] #[]
def ptV (p : Pt) : Value := .agg #[fv (fPut p), fv (fTake p), fv (fMove p), fv (fMay p)]
def ptCells (p : Pt) : List Value := [fv (fPut p), fv (fTake p), fv (fMove p), fv (fMay p)]

theorem wh0_any (w : World) : Calls Try.prog 21 #[] w fun e w' => e = .returned (ptV .whole) ∧ Upd (fun _ => False) w w' := by
  go_enter Try.func21, Try.ntmps21
  go_wp2_with fail
  exact bodyPost_ret (v := ptV .whole) (by simp [results, Try.results21, go_sem, ptV, fv, fPut, fTake, fMove, fMay]) rfl ⟨rfl, (Upd.refl _ _).alloc _⟩
theorem nm0_any (w : World) : Calls Try.prog 22 #[] w fun e w' => e = .returned (ptV .name) ∧ Upd (fun _ => False) w w' := by
  go_enter Try.func22, Try.ntmps22
  go_wp2_with fail
  exact bodyPost_ret (v := ptV .name) (by simp [results, Try.results22, go_sem, ptV, fv, fPut, fTake, fMove, fMay]) rfl ⟨rfl, (Upd.refl _ _).alloc _⟩
theorem rp0_any (w : World) : Calls Try.prog 23 #[] w fun e w' => e = .returned (ptV .reply) ∧ Upd (fun _ => False) w w' := by
  go_enter Try.func23, Try.ntmps23
  go_wp2_with fail
  exact bodyPost_ret (v := ptV .reply) (by simp [results, Try.results23, go_sem, ptV, fv, fPut, fTake, fMove, fMay]) rfl ⟨rfl, (Upd.refl _ _).alloc _⟩
theorem nd0_any (w : World) : Calls Try.prog 24 #[] w fun e w' => e = .returned (ptV .node) ∧ Upd (fun _ => False) w w' := by
  go_enter Try.func24, Try.ntmps24
  go_wp2_with fail
  exact bodyPost_ret (v := ptV .node) (by simp [results, Try.results24, go_sem, ptV, fv, fPut, fTake, fMove, fMay]) rfl ⟨rfl, (Upd.refl _ _).alloc _⟩
theorem by0_any (w : World) : Calls Try.prog 25 #[] w fun e w' => e = .returned (ptV .byy) ∧ Upd (fun _ => False) w w' := by
  go_enter Try.func25, Try.ntmps25
  go_wp2_with fail
  exact bodyPost_ret (v := ptV .byy) (by simp [results, Try.results25, go_sem, ptV, fv, fPut, fTake, fMove, fMay]) rfl ⟨rfl, (Upd.refl _ _).alloc _⟩
theorem bs0_any (w : World) : Calls Try.prog 27 #[] w fun e w' => e = .returned (ptV .base) ∧ Upd (fun _ => False) w w' := by
  go_enter Try.func27, Try.ntmps27
  go_wp2_with fail
  exact bodyPost_ret (v := ptV .base) (by simp [results, Try.results27, go_sem, ptV, fv, fPut, fTake, fMove, fMay]) rfl ⟨rfl, (Upd.refl _ _).alloc _⟩
theorem up0_any (w : World) : Calls Try.prog 28 #[] w fun e w' => e = .returned (ptV .upto) ∧ Upd (fun _ => False) w w' := by
  go_enter Try.func28, Try.ntmps28
  go_wp2_with fail
  exact bodyPost_ret (v := ptV .upto) (by simp [results, Try.results28, go_sem, ptV, fv, fPut, fTake, fMove, fMay]) rfl ⟨rfl, (Upd.refl _ _).alloc _⟩
theorem va0_any (w : World) : Calls Try.prog 30 #[] w fun e w' => e = .returned (ptV .value) ∧ Upd (fun _ => False) w w' := by
  go_enter Try.func30, Try.ntmps30
  go_wp2_with fail
  exact bodyPost_ret (v := ptV .value) (by simp [results, Try.results30, go_sem, ptV, fv, fPut, fTake, fMove, fMay]) rfl ⟨rfl, (Upd.refl _ _).alloc _⟩
theorem vo0_any (w : World) : Calls Try.prog 29 #[] w fun e w' => e = .returned (ptV .votes) ∧ Upd (fun _ => False) w w' := by
  go_enter Try.func29, Try.ntmps29
  go_wp2_with fail
  exact bodyPost_ret (v := ptV .votes) (by simp [results, Try.results29, go_sem, ptV, fv, fPut, fTake, fMove, fMay]) rfl ⟨rfl, (Upd.refl _ _).alloc _⟩
theorem it0_any (w : World) : Calls Try.prog 31 #[] w fun e w' => e = .returned (ptV .items) ∧ Upd (fun _ => False) w w' := by
  go_enter Try.func31, Try.ntmps31
  go_wp2_with fail
  exact bodyPost_ret (v := ptV .items) (by simp [results, Try.results31, go_sem, ptV, fv, fPut, fTake, fMove, fMay]) rfl ⟨rfl, (Upd.refl _ _).alloc _⟩
theorem sl0_any (w : World) : Calls Try.prog 26 #[] w fun e w' => e = .returned (ptV .slot) ∧ Upd (fun _ => False) w w' := by
  go_enter Try.func26, Try.ntmps26
  go_wp2_with fail
  refine (up0_any _).mono ?_
  rintro e w1 ⟨rfl, hu1⟩
  have hb := (Blk.new w 57 #[.nilFunc, .nilFunc, .nilFunc, .nilFunc]).upd hu1 id
  have HB := Lib.hid hb
  have HU := Lib.hid (((Upd.refl (fun _ => False) w).alloc (.cells #[.nilFunc, .nilFunc, .nilFunc, .nilFunc] 57)).trans hu1 (fun _ _ h => h))
  have c0 : w1.cell? ⟨w.heap.size, 0, none⟩ = some .nilFunc := hb.cell 0
  have c1 : w1.cell? ⟨w.heap.size, 1, none⟩ = some .nilFunc := hb.cell 1
  have c2 : w1.cell? ⟨w.heap.size, 2, none⟩ = some .nilFunc := hb.cell 2
  have c3 : w1.cell? ⟨w.heap.size, 3, none⟩ = some .nilFunc := hb.cell 3
  have d0 := hb.frozen 0
  have d1 := hb.frozen 1
  have d2 := hb.frozen 2
  have d3 := hb.frozen 3
  have hz : w.heap.size < w1.heap.size := hb.lt
  have hz' : w.heap.size ≠ w1.heap.size := by omega
  clear hb hu1
  unfold ptV fv fPut fTake fMove fMay
  dsimp only
  go_wp2_with fail
  have hB := ((((HB.out.set_ 0 (fv 76)).set_ 1 (fv 77)).set_ 2 (fv 78)).set_ 3 (fv 70)).alloc (.cells #[fv 76, fv 77, fv 78, fv 70] 57)
  have p0 := hB.cell 0
  have p1 := hB.cell 1
  have p2 := hB.cell 2
  have p3 := hB.cell 3
  simp [fv] at p0 p1 p2 p3
  refine bodyPost_ret (v := .agg #[.func (.func 76) #[] #[], .func (.func 77) #[] #[], .func (.func 78) #[] #[], .func (.func 70) #[] #[]]) (by simp [results, Try.results26, go_sem, p0, p1, p2, p3]) rfl ⟨rfl, ?_⟩
  have hset : ∀ wx (i : Nat) (u : Value), Upd (fun _ => False) w wx → Upd (fun _ => False) w (wx.setCell ⟨w.heap.size, i, none⟩ u) := fun wx i u hu => Upd.setCell (F := fun _ => False) hu (p := ⟨w.heap.size, i, none⟩) (.inr (Nat.le_refl _)) _
  exact (hset _ _ _ (hset _ _ _ (hset _ _ _ (hset _ _ _ HU.out)))).alloc _
end Go.Proofs.Ytaielcokfpodaaa
