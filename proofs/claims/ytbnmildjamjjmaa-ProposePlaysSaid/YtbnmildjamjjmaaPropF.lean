/-
  Package propose: Open and Voted with all their outcomes; the statements' own helper wakes answers true. Conditions: fewer than 100000 open slots.
-/
import Derived.Test.YtbnmildjamjjmaaPropB
import Derived.Test.YtbnmildjamjjmaaPropE
namespace Go.Proofs.Ytbnmildjamjjmaa
open Go.RowKit Go.Maps

def itemV (x : Int × ByteArray) : Value := .agg #[.int .u64 x.1, .string x.2]
/-- What a vote makes of the open slots, what it answers. -/
def votedP (M : List PO) (n s : Int) : List PO × (Int × ByteArray) × Bool :=
  match M.find? (fun o => o.slot == s) with
  | none => (M, (0, ByteArray.empty), false)
  | some o => if setMaj o.cfg (votedO o n).who then (closeM M s, (s, o.val), true) else (setM M (votedO o n), (0, ByteArray.empty), false)
theorem closeM_setM (M : List PO) (o : PO) : closeM (setM M o) o.slot = closeM M o.slot := by
  unfold closeM setM
  induction M with
  | nil => rfl
  | cons x M ih =>
    rw [List.map_cons]
    by_cases h : x.slot = o.slot
    · rw [if_pos h, List.filter_cons, List.filter_cons]
      simp [h]
      simpa using ih
    · rw [if_neg h, List.filter_cons, List.filter_cons]
      simp [h]
      simpa using ih

theorem pvoted_any {w : World} {F : Nat → Prop} {p : Value} {M : List PO} {last : Int} (h : Dsk w F p M last) (hr : Rising M) (n s : Int) (hw : (Lit.int .u64 s).wf = true) (h0 : 0 ≤ n) (h1 : n ≤ 255) (hl : M.length ≤ 100000) :
    Calls Try.prog 14 #[p, .int .u8 n, .int .u64 s] w fun e w' => e = .returned (.tuple #[itemV (votedP M n s).2.1, .bool (votedP M n s).2.2]) ∧ Upd F w w' ∧ Dsk w' F p (votedP M n s).1 last := by
  unfold votedP
  cases hf : M.find? (fun o => o.slot == s) with
  | none =>
    have hn : M.any (fun o => o.slot == s) = false := any_slot_no (fun o ho => by simpa using List.find?_eq_none.1 hf o ho)
    exact (pvoted_no h n s hw hn).mono fun e w' ⟨he, hu⟩ => ⟨he, hu.mono (fun _ _ h => h.elim), h.upd hu (fun _ _ h => h)⟩
  | some o =>
    have ho := List.mem_of_find?_eq_some hf
    have hs : o.slot = s := by simpa using List.find?_some hf
    subst hs
    refine (pvoted_yes h n o ho hr h0 h1 hl).mono fun e w' hh => ?_
    rcases hh with ⟨hm, he, hu, hd⟩ | ⟨hm, he, hu, hd⟩
    · simp only [hm]
      exact ⟨he, hu, hd⟩
    · simp only [hm]
      have e2 : (votedO o n).slot = o.slot := rfl
      have h3 := closeM_setM M (votedO o n)
      rw [e2] at h3
      rw [h3] at hd
      exact ⟨he, hu, hd⟩

/-- What Open makes of the open slots, of the last slot. -/
def openM (M : List PO) (last slot : Int) (v : ByteArray) (cfg : Int) : List PO := if openE slot cfg last = 0 then M ++ [⟨slot, v, cfg, 0⟩] else M
def openL (last slot cfg : Int) : Int := if openE slot cfg last = 0 then slot else last

theorem popen_any {w : World} {F : Nat → Prop} {p : Value} {M : List PO} {last : Int} (h : Dsk w F p M last) (slot : Int) (v : ByteArray) (cfg : Int) (hs0 : 0 ≤ slot) (hl : M.length ≤ 100000) (hM : ∀ x ∈ M, x.slot ≤ last) :
    Calls Try.prog 11 #[p, .int .u64 slot, .string v, .int .u8 cfg] w fun e w' => e = .returned (.int .i64 (openE slot cfg last)) ∧ Upd F w w' ∧ Dsk w' F p (openM M last slot v cfg) (openL last slot cfg) := by
  unfold openM openL openE
  cases hb : openBad slot cfg
  · by_cases hst : slot ≤ last
    · refine (popen_state h slot v cfg hb hst).mono fun e w' ⟨he, hw⟩ => ?_
      subst hw
      simp only [hst, Bool.false_eq_true, if_false, if_true]
      exact ⟨he, Upd.refl _ _, h⟩
    · refine (popen_ok h slot v cfg hb (by omega) hs0 hl hM).mono fun e w' ⟨he, hu, hd⟩ => ?_
      simp only [hst, Bool.false_eq_true, if_false, if_true]
      exact ⟨he, hu, hd⟩
  · obtain ⟨b, rfl⟩ := h.ptr
    refine (popen_bad b slot v cfg hb).mono fun e w' ⟨he, hw⟩ => ?_
    subst hw
    simp only [if_true]
    exact ⟨he, Upd.refl _ _, h⟩

def kA : ByteArray := { data := #[97] }
theorem k0 : openE 1 7 0 = 0 := by kernel_rfl
theorem k0M : openM [] 0 1 kA 7 = [⟨1, kA, 7, 0⟩] := by kernel_rfl
theorem k1 : votedP [⟨1, kA, 7, 0⟩] 0 1 = ([⟨1, kA, 7, 1⟩], (0, ByteArray.empty), false) := by kernel_rfl
theorem k2 : votedP [⟨1, kA, 7, 1⟩] 0 1 = ([⟨1, kA, 7, 1⟩], (0, ByteArray.empty), false) := by kernel_rfl
theorem k3 : votedP [⟨1, kA, 7, 1⟩] 3 1 = ([⟨1, kA, 7, 1⟩], (0, ByteArray.empty), false) := by kernel_rfl
theorem k4 : votedP [⟨1, kA, 7, 1⟩] 2 1 = ([], (1, kA), true) := by kernel_rfl
theorem k5 : votedP [] 1 1 = ([], (0, ByteArray.empty), false) := by kernel_rfl
theorem k6 : openE 1 7 1 = 13 := by kernel_rfl
theorem kwf : (Lit.int .u64 1).wf = true := by decide
theorem kr (h : Int) : Rising [⟨1, kA, 7, h⟩] := ⟨List.pairwise_singleton _ _, fun o ho => by rw [List.mem_singleton] at ho; subst ho; exact kwf⟩
theorem kr0 : Rising [] := ⟨List.Pairwise.nil, by simp⟩

/-- Steps on a desk of the call's own leave what was there. -/
theorem upd_new {w w1 w2 : World} {F : Nat → Prop} (h : Upd (fun _ => False) w w1) (hF : ∀ k, F k → w.heap.size ≤ k) (h2 : Upd F w1 w2) : Upd (fun _ => False) w w2 :=
  h.trans h2 (fun i hi hf => by have := hF i hf; omega)

set_option maxRecDepth 100000 in
set_option maxHeartbeats 4000000 in
theorem wakes20_true (w : World) : Calls Try.prog 8 #[] w fun e w' => e = .returned (.bool true) ∧ Upd (fun _ => False) w w' := by
  go_enter Try.func8, Try.ntmps8
  go_wp2_with fail
  refine (pnew_any w).mono ?_
  rintro e w1 ⟨p, rfl, hu1, hd1⟩
  obtain ⟨b, rfl⟩ := hd1.ptr
  have HU1 := Lib.hid hu1
  have HD1 := Lib.hid hd1
  have HFN : Hid (∀ k, (w.heap.size ≤ k ∧ k < w1.heap.size) → w.heap.size ≤ k) := fun k h => h.1
  clear hu1 hd1
  go_wp2_with fail
  refine (popen_any HD1.out 1 kA 7 (by omega) (by simp) (by simp)).mono ?_
  rw [k0, k0M, show openL 0 1 7 = 1 from by kernel_rfl]
  rintro e w2 ⟨rfl, hu, hd⟩
  have hz2 := hu.size
  have HU2 := Lib.hid (upd_new HU1.out HFN.out hu)
  have HD2 := Lib.hid hd
  clear hu hd
  go_wp2_with fail
  refine (pvoted_any HD2.out (kr _) 0 1 kwf (by omega) (by omega) (by simp)).mono ?_
  rw [k1]
  unfold itemV
  rintro e w3 ⟨rfl, hu, hd⟩
  have hz3 := Nat.le_trans hz2 hu.size
  have HU3 := Lib.hid (upd_new HU2.out HFN.out hu)
  have HD3 := Lib.hid hd
  clear hu hd
  go_wp2_with fail
  refine (pvoted_any (HD3.out.upd ((Upd.refl (fun _ => False) _).alloc _) (fun _ _ h => h)) (kr _) 0 1 kwf (by omega) (by omega) (by simp)).mono ?_
  rw [k2]
  unfold itemV
  rintro e w4 ⟨rfl, hu, hd⟩
  have hz4 : w1.heap.size ≤ w4.heap.size := by have := hu.size; simp at this; omega
  have HU4 := Lib.hid (upd_new (HU3.out.alloc _) HFN.out hu)
  have HD4 := Lib.hid hd
  clear hu hd
  go_wp2_with fail
  refine (pvoted_any (HD4.out.upd ((Upd.refl (fun _ => False) _).alloc _) (fun _ _ h => h)) (kr _) 3 1 kwf (by omega) (by omega) (by simp)).mono ?_
  rw [k3]
  unfold itemV
  rintro e w5 ⟨rfl, hu, hd⟩
  have HU5 := Lib.hid (upd_new (HU4.out.alloc _) HFN.out hu)
  have HD5 := Lib.hid hd
  have hz5 : w1.heap.size ≤ w5.heap.size := by have := hu.size; simp at this; omega
  clear hu hd
  go_wp2_with fail
  refine (pall_any sort_one (HD5.out.upd ((Upd.refl (fun _ => False) _).alloc _) (fun _ _ h => h)) (kr _) (by simp) (by simp)).mono ?_
  rintro e w6 ⟨v, rfl, hu, ho, hv⟩
  obtain ⟨g, c, rfl, hg, hlg, c0, c1, c2, c3⟩ : ∃ g c, v = .slice (some ⟨g, 0, none⟩) 1 c ∧ w5.heap.size ≤ g ∧ g < w6.heap.size ∧ w6.cell? ⟨g, 0, none⟩ = some (.int .u64 1) ∧ w6.cell? ⟨g, 1, none⟩ = some (.string kA) ∧ w6.cell? ⟨g, 2, none⟩ = some (.int .u8 7) ∧ w6.cell? ⟨g, 3, none⟩ = some (.int .u8 1) := by
    rcases ho.2 with ⟨_, h0⟩ | ⟨g, cap, cur, rfl, hb, hgg, _⟩
    · simp at h0
    · refine ⟨g, cap, rfl, by have := hv g rfl; simp at this; omega, (Array.getElem?_eq_some_iff.1 hgg).1, ?_, ?_, ?_, ?_⟩
      · exact (ho.cellAt 0 (by simp)).trans rfl
      · exact (ho.cellAt 1 (by simp)).trans rfl
      · exact (ho.cellAt 2 (by simp)).trans rfl
      · exact (ho.cellAt 3 (by simp)).trans rfl
  have HU6 := Lib.hid ((HU5.out.alloc _).trans hu (fun _ _ h => h))
  have HD6 := Lib.hid ((HD5.out.upd ((Upd.refl (fun _ => False) _).alloc _) (fun _ _ h => h)).upd hu (fun _ _ h => h))
  have HC6 : Hid (∀ wx, Upd (fun k => w.heap.size ≤ k ∧ k < w1.heap.size) w6 wx → wx.cell? ⟨g, 0, none⟩ = some (.int .u64 1) ∧ wx.cell? ⟨g, 1, none⟩ = some (.string kA) ∧ wx.cell? ⟨g, 2, none⟩ = some (.int .u8 7) ∧ wx.cell? ⟨g, 3, none⟩ = some (.int .u8 1)) := fun wx hx =>
    ⟨(hx.cell (p := ⟨g, 0, none⟩) hlg (fun h => by have := h.2; simp at this; omega)).trans c0, (hx.cell (p := ⟨g, 1, none⟩) hlg (fun h => by have := h.2; simp at this; omega)).trans c1, (hx.cell (p := ⟨g, 2, none⟩) hlg (fun h => by have := h.2; simp at this; omega)).trans c2, (hx.cell (p := ⟨g, 3, none⟩) hlg (fun h => by have := h.2; simp at this; omega)).trans c3⟩
  clear hu ho hv c0 c1 c2 c3
  go_wp2_with fail
  refine (pvoted_any HD6.out (kr _) 2 1 kwf (by omega) (by omega) (by simp)).mono ?_
  rw [k4]
  unfold itemV
  rintro e w7 ⟨rfl, hu, hd⟩
  have HU7 := Lib.hid (upd_new HU6.out HFN.out hu)
  have HD7 := Lib.hid hd
  have H67 := Lib.hid hu
  clear hu hd
  go_wp2_with fail
  refine (pvoted_any (HD7.out.upd ((Upd.refl (fun _ => False) _).alloc _) (fun _ _ h => h)) kr0 1 1 kwf (by omega) (by omega) (by simp)).mono ?_
  rw [k5]
  unfold itemV
  rintro e w8 ⟨rfl, hu, hd⟩
  have HU8 := Lib.hid (upd_new (HU7.out.alloc _) HFN.out hu)
  have HD8 := Lib.hid hd
  have hz7 : w1.heap.size ≤ w7.heap.size := by have := H67.out.size; omega
  have hx8 := ((Blk.new w7 41 #[.int .u64 1, .string kA]).upd hu (fun h => by have := h.2; omega)).alloc (.cells #[.int .u64 0, .string ByteArray.empty] 41)
  have x0 : (w8.alloc (.cells #[.int .u64 0, .string ByteArray.empty] 41)).cell? ⟨w7.heap.size, 0, none⟩ = some (.int .u64 1) := hx8.cell 0
  have x1 : (w8.alloc (.cells #[.int .u64 0, .string ByteArray.empty] 41)).cell? ⟨w7.heap.size, 1, none⟩ = some (.string { data := #[97] }) := hx8.cell 1
  obtain ⟨g0, g1, g2, g3⟩ := HC6.out (w8.alloc (.cells #[.int .u64 0, .string ByteArray.empty] 41)) (((H67.out.alloc _).trans hu (fun _ _ h => h)).alloc _)
  rw [show kA = { data := #[97] } from rfl] at g1
  clear hu hd hx8
  go_wp2_with fail
  refine (popen_any (HD8.out.upd ((Upd.refl (fun _ => False) _).alloc _) (fun _ _ h => h)) 1 { data := #[98] } 7 (by omega) (by simp) (by simp)).mono ?_
  rw [k6, show openM [] 1 1 { data := #[98] } 7 = [] from by kernel_rfl, show openL 1 1 7 = 1 from by kernel_rfl]
  rintro e w9 ⟨rfl, hu, hd⟩
  have HU9 := Lib.hid (upd_new (HU8.out.alloc _) HFN.out hu)
  have HD9 := Lib.hid hd
  clear hu hd
  go_wp2_with fail
  refine (pall_any sort_one HD9.out kr0 (by simp) (by simp)).mono ?_
  rintro e w10 ⟨v, rfl, hu, ho, _⟩
  obtain ⟨A, c2, rfl, _, _⟩ := row_shape ho
  have HU10 := Lib.hid (HU9.out.trans hu (fun _ _ h => h))
  have HD10 := Lib.hid (HD9.out.upd hu (fun _ _ h => h))
  clear hu ho
  go_wp2_with fail
  refine (plast_any HD10.out).mono ?_
  rintro e w11 ⟨rfl, rfl⟩
  go_wp2_with fail
  go_ret
  exact ⟨rfl, HU10.out⟩

end Go.Proofs.Ytbnmildjamjjmaa
