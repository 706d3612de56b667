/-
  Layer 9, commands: their kinds; checked. Conditions: texts of at most 10^9 bytes.
-/
import Derived.Test.YtaielcokfpodaaaMap8
import Derived.Test.YtaielcokfpodaaaBallotT
import Derived.Deep.DeepCutAuto
namespace Go.Proofs.Ytaielcokfpodaaa
open Go.RowKit Go.Maps

def iR : Value → Option (DataW Int × List MemPlace)
  | .int .i64 v => some (.held v, [])
  | _ => none
theorem iR_inv (v : Value) (x : Int) (ps : List MemPlace) (h : iR v = some (.held x, ps)) : v = .int .i64 x := by
  unfold iR at h
  split at h
  · simp only [Option.some.injEq, Prod.mk.injEq, DataW.held.injEq] at h; rw [h.1]
  · cases h
theorem zeroI (w : World) : (zeroValue 3).run Try.prog w = .ok (.int .i64 0) w := by kernel_rfl
/-- What each kind has. -/
def cHas (k : Int) : Option Int := if k = 1 then some 1 else if k = 2 then some 5 else if k = 3 then some 1 else if k = 4 then some 7 else if k = 5 then some 8 else none
def cHasF : Int → Option Int := setE (setE (setE (setE (setE (fun _ => none) 1 1) 2 5) 3 1) 4 7) 5 8
theorem cHasF_eq (k : Int) : cHasF k = cHas k := by
  unfold cHasF cHas
  by_cases h1 : k = 1
  · subst h1; rfl
  by_cases h2 : k = 2
  · subst h2; rfl
  by_cases h3 : k = 3
  · subst h3; rfl
  by_cases h4 : k = 4
  · subst h4; rfl
  by_cases h5 : k = 5
  · subst h5; rfl
  simp [setE, h1, h2, h3, h4, h5]

theorem ckinds_any (w : World) : Calls Try.prog 99 #[] w fun e w' => ∃ m, e = .returned (.map (some m)) ∧ w.heap.size ≤ m ∧ Upd (fun _ => False) w w' ∧ MapE w' iR m 5 cHasF := by
  have hmm := @run_makeMap Try.prog
  have h0 := MapE.made w iR (m := w.heap.size) rfl
  obtain ⟨w1, r1, h1, u1⟩ := h0.store Try.underlying105 (by simp [maxLen]) (show iR (.int .i64 1) = some (.held 1, []) from rfl) (s := 1) (by decide)
  obtain ⟨w2, r2, h2, u2⟩ := h1.store Try.underlying105 (by simp [maxLen]) (show iR (.int .i64 5) = some (.held 5, []) from rfl) (s := 2) (by decide)
  obtain ⟨w3, r3, h3, u3⟩ := h2.store Try.underlying105 (by simp [maxLen]) (show iR (.int .i64 1) = some (.held 1, []) from rfl) (s := 3) (by decide)
  obtain ⟨w4, r4, h4, u4⟩ := h3.store Try.underlying105 (by simp [maxLen]) (show iR (.int .i64 7) = some (.held 7, []) from rfl) (s := 4) (by decide)
  obtain ⟨w5, r5, h5, u5⟩ := h4.store Try.underlying105 (by simp [maxLen]) (show iR (.int .i64 8) = some (.held 8, []) from rfl) (s := 5) (by decide)
  have HU : Hid (Upd (fun _ => False) w w5) := by
    have q1 := (((((Upd.refl (fun _ => False) w).alloc (.map #[] 0)).trans u1 (fun i hi e => by omega)).trans u2 (fun i hi e => by omega)).trans u3 (fun i hi e => by omega)).trans u4 (fun i hi e => by omega)
    exact q1.trans u5 (fun i hi e => by omega)
  have HM := Lib.hid h5
  clear h0 h1 h2 h3 h4 h5 u1 u2 u3 u4 u5
  go_enter Try.func99, Try.ntmps99
  go_wp2
  go_ret
  exact ⟨_, rfl, Nat.le_refl _, HU.out, HM.out⟩

def cmdV (c : Cm) : Value := .agg #[.int .u8 c.client, .int .u32 c.seq, .int .u8 c.kind, .string (strOfNums c.key), .string (strOfNums c.old), .string (strOfNums c.new), .int .u8 c.set]
def cmdCells (c : Cm) : Array Value := #[.int .u8 c.client, .int .u32 c.seq, .int .u8 c.kind, .string (strOfNums c.key), .string (strOfNums c.old), .string (strOfNums c.new), .int .u8 c.set]
def cmdE (c : Cm) : Int := if cmdMay c then 0 else 2

theorem strOf_nil_iff (l : List Int) : (strOfNums l).toList = [] ↔ l = [] := by
  rw [strOf_list]
  cases l with
  | nil => exact ⟨fun _ => rfl, fun _ => rfl⟩
  | cons x l => exact ⟨fun h => absurd h (by simp [Lib.bytesOf]), fun h => absurd h (by simp)⟩

theorem clong_any (l : List Int) (hl : l.length ≤ 1000000000) (most part has : Int) (g : Nat) (t : TypeId) (w : World) (hg : Blk w g t #[.int .i64 has]) :
    Calls Try.prog 100 #[.string (strOfNums l), .int .i64 most, .int .i64 part, .pointer (some ⟨g, 0, none⟩)] w fun e w' => e = .returned (.bool (decide (most < (l.length : Int)) || (!(decide (l = [])) && decide (bits .and .i64 has part = 0)))) ∧ w = w' := by
  have hz : (strOfNums l).size = l.length := strOfNums_size l
  have hc : w.cell? ⟨g, 0, none⟩ = some (.int .i64 has) := hg.cell 0
  have hl' : (l.length : Int) ≤ 1000000000 := by omega
  have HN := Lib.hid (strOf_nil_iff l)
  obtain ⟨x, hx⟩ : ∃ x, bits .and .i64 has part = x := ⟨_, rfl⟩
  have HX := Lib.hid hx
  rw [hx]
  clear hg
  go_enter Try.func100, Try.ntmps100
  go_wp2_with fail
  · go_ret
    rename_i h1 h2
    exact ⟨ret_bool (by rw [decide_eq_false (by omega), decide_eq_true (HN.out.1 h2)]; rfl), rfl⟩
  · go_ret
    rename_i h1 h2
    exact ⟨ret_bool (by rw [decide_eq_false (fun h => h2 (HN.out.2 h))]; cases hq : (strOfNums l).toList with | nil => exact absurd hq h2 | cons a b => rfl), rfl⟩
  · go_ret
    exact ⟨rfl, rfl⟩

theorem cHas_bits {k hv : Int} (h : cHas k = some hv) : cIs k = true ∧ decide (bits .and .i64 hv 1 = 0) = !cKey k ∧ decide (bits .and .i64 hv 2 = 0) = !cOld k ∧ decide (bits .and .i64 hv 4 = 0) = !cNew k ∧ decide (bits .and .i64 hv 8 = 0) = !cSet k := by
  unfold cHas at h
  split at h
  · rename_i e; subst e; cases h; decide
  split at h
  · rename_i e; subst e; cases h; decide
  split at h
  · rename_i e; subst e; cases h; decide
  split at h
  · rename_i e; subst e; cases h; decide
  split at h
  · rename_i e; subst e; cases h; decide
  cases h
theorem cHas_none {k : Int} (h : cHas k = none) : cIs k = false := by
  unfold cHas at h
  unfold cIs
  refine decide_eq_false fun hk => ?_
  have : k = 1 ∨ k = 2 ∨ k = 3 ∨ k = 4 ∨ k = 5 := by omega
  rcases this with rfl | rfl | rfl | rfl | rfl <;> cases h

/-- Behind the first region of Check. -/
def CkCut (w0 : World) (hv : Int) (iss : Bool) (s3 s4 : Value) (wx : World) : Prop := ∃ g, s3 = .pointer (some ⟨g, 0, none⟩) ∧ s4 = .bool iss ∧ Blk wx g 3 #[.int .i64 hv] ∧ Upd (fun _ => False) w0 wx

set_option maxRecDepth 100000 in
set_option maxHeartbeats 8000000 in
theorem ccheck_any (c : Cm) (hk : 0 ≤ c.kind ∧ c.kind ≤ 255) (hl : c.key.length ≤ 1000000000 ∧ c.old.length ≤ 1000000000 ∧ c.new.length ≤ 1000000000) (w : World) :
    Calls Try.prog 47 #[cmdV c] w fun e w' => e = .returned (.int .i64 (cmdE c)) ∧ Upd (fun _ => False) w w' := by
  obtain ⟨client, seq, kind, key, old, new, set⟩ := c
  unfold cmdE cmdMay cmdV
  dsimp only at hk hl ⊢
  obtain ⟨hl1, hl2, hl3⟩ := hl
  have HLK : Hid (∀ wx m, MapE wx iR m 5 cHasF → (Instr.lookup 105 (.map (some m)) (.int .u8 kind) true).run Try.prog wx = .ok (.tuple #[.int .i64 ((cHas kind).getD 0), .bool (cHas kind).isSome]) wx) := fun wx m hx => by
    have := hx.look_ok Try.underlying105 (Value.int .i64) iR_inv _ (zeroI wx) rfl (wf_u8_ hk.1 hk.2)
    rwa [cHasF_eq] at this
  have HLONG := Lib.hid (fun (l : List Int) (hl : l.length ≤ 1000000000) (most part has : Int) (g : Nat) (wx : World) (hg : Blk wx g 3 #[.int .i64 has]) => clong_any l hl most part has g 3 wx hg)
  have HNK := Lib.hid (strOf_nil_iff key)
  obtain ⟨iss, hiss⟩ : ∃ b, (cHas kind).isSome = b := ⟨_, rfl⟩
  obtain ⟨hv, hhv⟩ : ∃ v, (cHas kind).getD 0 = v := ⟨_, rfl⟩
  rw [hiss, hhv] at HLK
  have HF : Hid (cIs kind = iss ∧ (iss = true → decide (bits .and .i64 hv 1 = 0) = !cKey kind ∧ decide (bits .and .i64 hv 2 = 0) = !cOld kind ∧ decide (bits .and .i64 hv 4 = 0) = !cNew kind ∧ decide (bits .and .i64 hv 8 = 0) = !cSet kind)) := by
    show _ ∧ _
    cases hc : cHas kind with
    | none => rw [hc] at hiss; rw [← hiss]; exact ⟨cHas_none hc, fun h => by cases h⟩
    | some x =>
      rw [hc] at hiss hhv
      obtain rfl : x = hv := hhv
      obtain ⟨a, b, d, e, f⟩ := cHas_bits hc
      rw [← hiss]
      exact ⟨a, fun _ => ⟨b, d, e, f⟩⟩
  obtain ⟨E, hE⟩ : ∃ E : Int, (if (cIs kind && decide (client < 4) && !(decide (seq = 0)) && !(longB key 16 (cKey kind)) && !(longB old 64 (cOld kind)) && !(longB new 64 (cNew kind)) && !(decide (key = []) && cKey kind) && !(!(decide (set = 0)) && !cSet kind)) = true then (0 : Int) else 2) = E := ⟨_, rfl⟩
  have HE0 := Lib.hid hE
  rw [hE]
  clear hiss hhv hk hE
  go_enter Try.func47, Try.ntmps47
  go_wp2_with fail
  have hb0 := Blk.new w 30 #[.int .u8 client, .int .u32 seq, .int .u8 kind, .string (strOfNums key), .string (strOfNums old), .string (strOfNums new), .int .u8 set]
  have hw0 : Upd (fun _ => False) w (w.alloc (.cells #[.int .u8 client, .int .u32 seq, .int .u8 kind, .string (strOfNums key), .string (strOfNums old), .string (strOfNums new), .int .u8 set] 30)) := (Upd.refl _ _).alloc _
  generalize w.alloc (.cells #[.int .u8 client, .int .u32 seq, .int .u8 kind, .string (strOfNums key), .string (strOfNums old), .string (strOfNums new), .int .u8 set] 30) = w0 at *
  have HB0 := Lib.hid hb0
  have HW0 := Lib.hid hw0
  have c2 : w0.cell? ⟨w.heap.size, 2, none⟩ = some (.int .u8 kind) := hb0.cell 2
  clear hb0 hw0
  go_cut [3, 4] (fun s3 s4 wx => CkCut w0 hv iss s3 s4 wx)
  case first =>
    go_region_held3 (fun wx => wx.cell? ⟨w.heap.size, 2, none⟩ = some (.int .u8 kind))
      (first
        | exact c2
        | exact (HB0.out.alloc _).cell 2
        | exact (HB0.out.upd HU1.out id).cell 2
        | exact ((HB0.out.upd HU1.out id).alloc _).cell 2
        | exact ((HB0.out.upd HU1.out id).far (p := ⟨w0.heap.size, 0, none⟩) (by have := HB0.out.lt; show w.heap.size ≠ w0.heap.size; omega) _).cell 2
        | fail)
      (first
        | (go_at_call 99
           refine (ckinds_any _).mono ?_
           rintro e w1 ⟨m, rfl, hml, hu1, hm1⟩
           have HU1 : Hid (Upd (fun _ => False) w0 w1) := by first | exact (Upd.refl _ _).drew.trans hu1 (fun _ _ h => h) | exact ((Upd.refl _ _).alloc _).drew.trans hu1 (fun _ _ h => h)
           have HV1 := Lib.hid hu1
           have r1 := HLK.out _ _ hm1
           have r2 := HLK.out _ _ (hm1.upd ((Upd.refl (fun _ => False) _).alloc (.cells #[.int .i64 0] 3)) id)
           first
             | (have hb3 : Blk w1 w0.heap.size 3 #[.int .i64 0] := Blk.upd (w := (w0.alloc (.cells #[.int .i64 0] 3)).drew) (Blk.new w0 _ _) HV1.out id
                have HB3 := Lib.hid hb3
                have f0 : w1.cell? ⟨w0.heap.size, 0, none⟩ = some (.int .i64 0) := hb3.cell 0
                have g0 : w1.frozen? ⟨w0.heap.size, 0, none⟩ = false := hb3.frozen 0
                clear hb3)
             | skip
           clear hml hu1 hm1)
        | fail)
    all_goals
      go_wp2_with fail
      go_meet
      first
        | exact ⟨_, rfl, rfl, Blk.new _ _ _, HU1.out.alloc _⟩
        | exact ⟨_, rfl, rfl, by simpa using HB3.out.set_ 0 (.int .i64 hv), Upd.setCell (F := fun _ => False) HU1.out (p := ⟨w0.heap.size, 0, none⟩) (.inr (Nat.le_refl _)) _⟩
  case rest =>
    obtain ⟨g, rfl, rfl, hbg, hug⟩ := hcut
    have hbw := HB0.out.upd hug id
    have k0 : wc.cell? ⟨w.heap.size, 0, none⟩ = some (.int .u8 client) := hbw.cell 0
    have k1 : wc.cell? ⟨w.heap.size, 1, none⟩ = some (.int .u32 seq) := hbw.cell 1
    have k3 : wc.cell? ⟨w.heap.size, 3, none⟩ = some (.string (strOfNums key)) := hbw.cell 3
    have k4 : wc.cell? ⟨w.heap.size, 4, none⟩ = some (.string (strOfNums old)) := hbw.cell 4
    have k5 : wc.cell? ⟨w.heap.size, 5, none⟩ = some (.string (strOfNums new)) := hbw.cell 5
    have k6 : wc.cell? ⟨w.heap.size, 6, none⟩ = some (.int .u8 set) := hbw.cell 6
    have kg : wc.cell? ⟨g, 0, none⟩ = some (.int .i64 hv) := hbg.cell 0
    have HU := Lib.hid (HW0.out.trans hug (fun _ _ h => h))
    have HBG := Lib.hid hbg
    clear hbw hbg hug c2
    cases iss
    · go_wp2_with fail
      go_ret
      exact ⟨ret_int (by rw [← HE0.out, HF.out.1]; rfl), HU.out⟩
    obtain ⟨f1, f2, f3, f4⟩ := HF.out.2 rfl
    have hL1 := HLONG.out key hl1 16 1 hv g wc HBG.out
    have hL2 := HLONG.out old hl2 64 2 hv g wc HBG.out
    have hL3 := HLONG.out new hl3 64 4 hv g wc HBG.out
    rw [f1] at hL1
    rw [f2] at hL2
    rw [f3] at hL3
    have q1 : (decide ((16 : Int) < (key.length : Int)) || (!(decide (key = [])) && !cKey kind)) = longB key 16 (cKey kind) := by
      unfold longB
      congr 1
      exact decide_eq_decide.2 (by omega)
    have q2 : (decide ((64 : Int) < (old.length : Int)) || (!(decide (old = [])) && !cOld kind)) = longB old 64 (cOld kind) := by
      unfold longB
      congr 1
      exact decide_eq_decide.2 (by omega)
    have q3 : (decide ((64 : Int) < (new.length : Int)) || (!(decide (new = [])) && !cNew kind)) = longB new 64 (cNew kind) := by
      unfold longB
      congr 1
      exact decide_eq_decide.2 (by omega)
    rw [q1] at hL1
    rw [q2] at hL2
    rw [q3] at hL3
    obtain ⟨l1, e1⟩ : ∃ b, longB key 16 (cKey kind) = b := ⟨_, rfl⟩
    obtain ⟨l2, e2⟩ : ∃ b, longB old 64 (cOld kind) = b := ⟨_, rfl⟩
    obtain ⟨l3, e3⟩ : ∃ b, longB new 64 (cNew kind) = b := ⟨_, rfl⟩
    rw [e1] at hL1
    rw [e2] at hL2
    rw [e3] at hL3
    have HL1 := Lib.hid hL1
    have HL2 := Lib.hid hL2
    have HL3 := Lib.hid hL3
    have HE := Lib.hid (And.intro e1 (And.intro e2 (And.intro e3 HF.out.1)))
    obtain ⟨x1, hx1⟩ : ∃ x, bits .and .i64 hv 1 = x := ⟨_, rfl⟩
    obtain ⟨x8, hx8⟩ : ∃ x, bits .and .i64 hv 8 = x := ⟨_, rfl⟩
    rw [hx1] at f1
    rw [hx8] at f4
    have HX1 := Lib.hid f1
    have HX8 := Lib.hid f4
    clear f1 f2 f3 f4 hL1 hL2 hL3 q1 q2 q3 e1 e2 e3 hl1 hl2 hl3
    by_cases h1 : client < 4
    case neg =>
      have h1' : decide (4 ≤ client) = true := decide_eq_true (by omega)
      obtain rfl : E = 2 := by
        rw [← HE0.out, HE.out.1, HE.out.2.1, HE.out.2.2.1, HE.out.2.2.2]
        simp [h1]
      clear HE0
      go_wp2_with (first
        | (go_at_call 100; with_reducible refine HL1.out.mono ?_; rintro e w' ⟨rfl, rfl⟩)
        | (go_at_call 100; with_reducible refine HL2.out.mono ?_; rintro e w' ⟨rfl, rfl⟩)
        | (go_at_call 100; with_reducible refine HL3.out.mono ?_; rintro e w' ⟨rfl, rfl⟩)
        | fail)
      go_ret
      exact ⟨rfl, HU.out⟩
    have h1' : decide (4 ≤ client) = false := decide_eq_false (by omega)
    by_cases h2 : seq = 0
    case pos =>
      have h2' : (seq == 0) = true := by simpa using h2
      obtain rfl : E = 2 := by
        rw [← HE0.out, HE.out.1, HE.out.2.1, HE.out.2.2.1, HE.out.2.2.2]
        simp [h2]
      clear HE0 h2
      go_wp2_with (first
        | (go_at_call 100; with_reducible refine HL1.out.mono ?_; rintro e w' ⟨rfl, rfl⟩)
        | (go_at_call 100; with_reducible refine HL2.out.mono ?_; rintro e w' ⟨rfl, rfl⟩)
        | (go_at_call 100; with_reducible refine HL3.out.mono ?_; rintro e w' ⟨rfl, rfl⟩)
        | fail)
      go_ret
      exact ⟨rfl, HU.out⟩
    have h2' : (seq == 0) = false := by simpa using h2
    cases l1
    case true =>
      obtain rfl : E = 2 := by
        rw [← HE0.out, HE.out.1, HE.out.2.1, HE.out.2.2.1, HE.out.2.2.2]
        simp
      clear HE0 h2
      go_wp2_with (first
        | (go_at_call 100; with_reducible refine HL1.out.mono ?_; rintro e w' ⟨rfl, rfl⟩)
        | (go_at_call 100; with_reducible refine HL2.out.mono ?_; rintro e w' ⟨rfl, rfl⟩)
        | (go_at_call 100; with_reducible refine HL3.out.mono ?_; rintro e w' ⟨rfl, rfl⟩)
        | fail)
      go_ret
      exact ⟨rfl, HU.out⟩
    cases l2
    case true =>
      obtain rfl : E = 2 := by
        rw [← HE0.out, HE.out.1, HE.out.2.1, HE.out.2.2.1, HE.out.2.2.2]
        simp
      clear HE0 h2
      go_wp2_with (first
        | (go_at_call 100; with_reducible refine HL1.out.mono ?_; rintro e w' ⟨rfl, rfl⟩)
        | (go_at_call 100; with_reducible refine HL2.out.mono ?_; rintro e w' ⟨rfl, rfl⟩)
        | (go_at_call 100; with_reducible refine HL3.out.mono ?_; rintro e w' ⟨rfl, rfl⟩)
        | fail)
      go_ret
      exact ⟨rfl, HU.out⟩
    cases l3
    case true =>
      obtain rfl : E = 2 := by
        rw [← HE0.out, HE.out.1, HE.out.2.1, HE.out.2.2.1, HE.out.2.2.2]
        simp
      clear HE0 h2
      go_wp2_with (first
        | (go_at_call 100; with_reducible refine HL1.out.mono ?_; rintro e w' ⟨rfl, rfl⟩)
        | (go_at_call 100; with_reducible refine HL2.out.mono ?_; rintro e w' ⟨rfl, rfl⟩)
        | (go_at_call 100; with_reducible refine HL3.out.mono ?_; rintro e w' ⟨rfl, rfl⟩)
        | fail)
      go_ret
      exact ⟨rfl, HU.out⟩
    have HC1 : Hid (∃ ck, cKey kind = ck) := ⟨_, rfl⟩
    obtain ⟨ck, hck⟩ := HC1.out
    obtain ⟨cs, hcs⟩ : ∃ cs, cSet kind = cs := ⟨_, rfl⟩
    have hx1 := HX1.out
    have hx8 := HX8.out
    rw [hck] at hx1
    rw [hcs] at hx8
    have HCK := Lib.hid (And.intro hck hcs)
    clear hck hcs
    by_cases h3 : key = []
    · have h3' := HNK.out.2 h3
      cases ck
      · have y1 : (x1 != 0) = false := by simpa using hx1
        have y2 : (x1 == 0) = true := by simpa using hx1
        clear hx1
        by_cases h4 : set = 0
        · have h4' : (set != 0) = false := by simpa using h4
          obtain rfl : E = 0 := by
            rw [← HE0.out, HE.out.1, HE.out.2.1, HE.out.2.2.1, HE.out.2.2.2]
            simp [h1, h2, h3, h4, HCK.out.1]
          clear HE0 h2 h3 h4 hx8
          go_wp2_with (first
            | (go_at_call 100; with_reducible refine HL1.out.mono ?_; rintro e w' ⟨rfl, rfl⟩)
            | (go_at_call 100; with_reducible refine HL2.out.mono ?_; rintro e w' ⟨rfl, rfl⟩)
            | (go_at_call 100; with_reducible refine HL3.out.mono ?_; rintro e w' ⟨rfl, rfl⟩)
            | fail)
          go_ret
          exact ⟨rfl, HU.out⟩
        have h4' : (set != 0) = true := by simpa using h4
        cases cs
        · have y8 : (x8 == 0) = true := by simpa using hx8
          obtain rfl : E = 2 := by
            rw [← HE0.out, HE.out.1, HE.out.2.1, HE.out.2.2.1, HE.out.2.2.2]
            simp [h4, HCK.out.2]
          clear HE0 h2 h3 h4 hx8
          go_wp2_with (first
            | (go_at_call 100; with_reducible refine HL1.out.mono ?_; rintro e w' ⟨rfl, rfl⟩)
            | (go_at_call 100; with_reducible refine HL2.out.mono ?_; rintro e w' ⟨rfl, rfl⟩)
            | (go_at_call 100; with_reducible refine HL3.out.mono ?_; rintro e w' ⟨rfl, rfl⟩)
            | fail)
          go_ret
          exact ⟨rfl, HU.out⟩
        · have y8 : (x8 == 0) = false := by simpa using hx8
          obtain rfl : E = 0 := by
            rw [← HE0.out, HE.out.1, HE.out.2.1, HE.out.2.2.1, HE.out.2.2.2]
            simp [h1, h2, h3, h4, HCK.out.1, HCK.out.2]
          clear HE0 h2 h3 h4 hx8
          go_wp2_with (first
            | (go_at_call 100; with_reducible refine HL1.out.mono ?_; rintro e w' ⟨rfl, rfl⟩)
            | (go_at_call 100; with_reducible refine HL2.out.mono ?_; rintro e w' ⟨rfl, rfl⟩)
            | (go_at_call 100; with_reducible refine HL3.out.mono ?_; rintro e w' ⟨rfl, rfl⟩)
            | fail)
          go_ret
          exact ⟨rfl, HU.out⟩
      · have y1 : (x1 != 0) = true := by simpa using hx1
        have y2 : (x1 == 0) = false := by simpa using hx1
        clear hx1
        obtain rfl : E = 2 := by
          rw [← HE0.out, HE.out.1, HE.out.2.1, HE.out.2.2.1, HE.out.2.2.2]
          simp [h3, HCK.out.1]
        clear HE0 h2 h3 hx8
        go_wp2_with (first
          | (go_at_call 100; with_reducible refine HL1.out.mono ?_; rintro e w' ⟨rfl, rfl⟩)
          | (go_at_call 100; with_reducible refine HL2.out.mono ?_; rintro e w' ⟨rfl, rfl⟩)
          | (go_at_call 100; with_reducible refine HL3.out.mono ?_; rintro e w' ⟨rfl, rfl⟩)
          | fail)
        go_ret
        exact ⟨rfl, HU.out⟩
    · have h3a : ¬ (strOfNums key).toList = [] := fun h => h3 (HNK.out.1 h)
      have h3b : (strOfNums key).toList.isEmpty = false := by
        cases hq : (strOfNums key).toList with
        | nil => exact absurd hq h3a
        | cons a b => rfl
      have h3c : ((strOfNums key).toList == []) = false := by simpa using h3a
      by_cases h4 : set = 0
      · have h4' : (set != 0) = false := by simpa using h4
        obtain rfl : E = 0 := by
          rw [← HE0.out, HE.out.1, HE.out.2.1, HE.out.2.2.1, HE.out.2.2.2]
          simp [h1, h2, h3, h4]
        clear HE0 h2 h3 h3a h4 hx8 hx1
        go_wp2_with (first
          | (go_at_call 100; with_reducible refine HL1.out.mono ?_; rintro e w' ⟨rfl, rfl⟩)
          | (go_at_call 100; with_reducible refine HL2.out.mono ?_; rintro e w' ⟨rfl, rfl⟩)
          | (go_at_call 100; with_reducible refine HL3.out.mono ?_; rintro e w' ⟨rfl, rfl⟩)
          | fail)
        go_ret
        exact ⟨rfl, HU.out⟩
      have h4' : (set != 0) = true := by simpa using h4
      cases cs
      · have y8 : (x8 == 0) = true := by simpa using hx8
        obtain rfl : E = 2 := by
          rw [← HE0.out, HE.out.1, HE.out.2.1, HE.out.2.2.1, HE.out.2.2.2]
          simp [h4, HCK.out.2]
        clear HE0 h2 h3 h3a h4 hx8 hx1
        go_wp2_with (first
          | (go_at_call 100; with_reducible refine HL1.out.mono ?_; rintro e w' ⟨rfl, rfl⟩)
          | (go_at_call 100; with_reducible refine HL2.out.mono ?_; rintro e w' ⟨rfl, rfl⟩)
          | (go_at_call 100; with_reducible refine HL3.out.mono ?_; rintro e w' ⟨rfl, rfl⟩)
          | fail)
        go_ret
        exact ⟨rfl, HU.out⟩
      · have y8 : (x8 == 0) = false := by simpa using hx8
        obtain rfl : E = 0 := by
          rw [← HE0.out, HE.out.1, HE.out.2.1, HE.out.2.2.1, HE.out.2.2.2]
          simp [h1, h2, h3, h4, HCK.out.2]
        clear HE0 h2 h3 h3a h4 hx8 hx1
        go_wp2_with (first
          | (go_at_call 100; with_reducible refine HL1.out.mono ?_; rintro e w' ⟨rfl, rfl⟩)
          | (go_at_call 100; with_reducible refine HL2.out.mono ?_; rintro e w' ⟨rfl, rfl⟩)
          | (go_at_call 100; with_reducible refine HL3.out.mono ?_; rintro e w' ⟨rfl, rfl⟩)
          | fail)
        go_ret
        exact ⟨rfl, HU.out⟩
end Go.Proofs.Ytaielcokfpodaaa
