/-
  ProposeOnce: the walk of the statement's own text. Conditions: none.
-/
import Derived.Test.YtbnmildjamjjmaaOnceB
import Derived.Test.YtbnmildjamjjmaaSortI
import Derived.Deep.DeepCutAuto
namespace Go.Proofs.Ytbnmildjamjjmaa
open Go.RowKit Go.Maps

/-- The keys that have come so far. -/
def ComeF {α : Type} (f : Int → Option α) (left : Lit → Bool) (ss : List Int) : Prop :=
  ss.Nodup ∧ (∀ x ∈ ss, (Lit.int .u64 x).wf = true) ∧ ∀ x, (Lit.int .u64 x).wf = true → (x ∈ ss ↔ (f x).isSome = true ∧ left (.int .u64 x) = false)
theorem comeF_start {α : Type} {D : DataW α} {f : Int → Option α} (h : RdF D f) : ComeF f (Maps.has D) [] :=
  ⟨List.nodup_nil, by simp, fun x hx => by rw [(h.2 x hx).1]; cases (f x).isSome <;> simp⟩
theorem comeF_step {α : Type} {D : DataW α} {f : Int → Option α} (h : RdF D f) {left : Lit → Bool} {ss : List Int} (hc : ComeF f left ss) {x : Int} (hw : (Lit.int .u64 x).wf = true) (hlk : left (.int .u64 x) = true) {y : DataW α} (hat : ∀ zd, D.atKey (.int .u64 x) zd = y) :
    ComeF f (fun z => left z && !z.sameKey (.int .u64 x)) (ss ++ [x]) := by
  obtain ⟨h1, h2, h3⟩ := hc
  have hh : (f x).isSome = true := by rw [← (h.2 x hw).1]; exact has_true_of_atKey hat
  have hnot : x ∉ ss := fun hx => by have := ((h3 x hw).1 hx).2; rw [hlk] at this; cases this
  refine ⟨List.nodup_append.2 ⟨h1, by simp, fun a ha b hb e => ?_⟩, fun z hz => ?_, fun z hz => ?_⟩
  · rw [List.mem_singleton] at hb
    subst hb; subst e
    exact hnot ha
  · rcases List.mem_append.1 hz with hz | hz
    · exact h2 z hz
    · rw [List.mem_singleton] at hz; subst hz; exact hw
  · rw [List.mem_append, List.mem_singleton, h3 z hz]
    by_cases e : z = x
    · subst e
      simp [hh, Lit.sameKey]
    · have e2 : ∀ l : Lit, l = Lit.int .u64 z → l.sameKey (.int .u64 x) = false := fun l hl => by
        subst hl
        exact sameKey_ne (by simpa using e)
      simp [e2 _ rfl, e]
theorem comeF_end {M : List PO} {last : Int} {V : Int → Option ByteArray} {C H : Int → Option Int} {G : Int → Option Bool} (hv : OInv M last V C H G) {left : Lit → Bool} {ss : List Int} (hc : ComeF V left ss) (hl : ∀ kl, left kl = false) : ∀ s, s ∈ ss ↔ (V s).isSome = true := fun s => by
  obtain ⟨_, h2, h3⟩ := hc
  constructor
  · intro hs
    exact ((h3 s (h2 s hs)).1 hs).1
  · intro hs
    exact (h3 s (hv.vle s hs).2).2 ⟨hs, hl _⟩
theorem keyOf_u64F {key : Value} {kl : Lit} (h : keyOf Try.prog 28 key = some kl) : ∃ x : Int, key = .int .u64 x ∧ kl = .int .u64 x ∧ (Lit.int .u64 x).wf = true := keyOf_u64 h
theorem sR_shape (v : Value) (y : DataW ByteArray × List MemPlace) (h : sR v = some y) : ∃ c, v = .string c := by
  unfold sR at h
  split at h
  · exact ⟨_, rfl⟩
  · cases h
theorem OMem.far {w : World} {FD : Nat → Prop} {p : Value} {m1 m2 m3 m4 : Nat} {M : List PO} {last : Int} {V : Int → Option ByteArray} {C H : Int → Option Int} {G : Int → Option Bool} {k : Nat} {wr w' : World} (h : OMem w FD p m1 m2 m3 m4 M last V C H G k wr) {r : Nat} (hr : m4 < r) (hu : Upd (fun j => j = r) wr w') : OMem w FD p m1 m2 m3 m4 M last V C H G k w' := by
  have q0 := h.lo
  have q1 := h.n1
  have q2 := h.n2
  have q3 := h.n3
  exact ⟨h.upd.trans hu (fun i hi e => by omega), h.old, h.desk.upd hu (fun j hj e => by have := h.f1 j hj; omega), h.a1.upd hu (by omega), h.a2.upd hu (by omega), h.a3.upd hu (by omega), h.a4.upd hu (by omega), h.lo, h.n1, h.n2, h.n3, h.f1⟩

attribute [local irreducible] setLen setWith setBoth setMaj openE openBad votedP openM openL openO takeN voteH wantN closeM setM setF setOf1

theorem made_at {H : Type} (w : World) (R : Value → Option (DataW H × List MemPlace)) {m : Nat} (hm : m = w.heap.size) : (w.alloc (.map #[] 0)).ownsMap Try.prog 28 R m 0 (.map []) := by
  rw [hm]; exact World.ownsMap_made _ _ _ _

theorem wf_u64' {n : Int} (h : (Lit.int .u64 n).wf = true) : 0 ≤ n ∧ n ≤ 18446744073709551615 := by
  simp [Lit.wf, IntKind.min, IntKind.max, IntKind.signed, IntKind.bits] at h; omega

set_option maxRecDepth 100000 in
set_option maxHeartbeats 16000000 in
theorem proposeOnce_walk (a : Option Addr) (n c : Nat) (w : World) (i1 : IsRows [.int .u8, .int .u64, .str, .int .u8, .int .u8] w a n c) :
    Calls Try.prog 6 #[.slice a n c] w fun e w' => e = .returned (.bool true) ∧ Below w.heap.size w w' := by
  have hmm := @run_makeMap Try.prog
  obtain ⟨hlc, hm, hx⟩ := id i1
  have HX := Lib.hid hx
  have HI := Lib.hid i1
  clear hx hm hlc i1
  go_enter Try.func6, Try.ntmps6
  go_wp2_with fail
  refine (great_any a n c w HI.out).mono ?_
  rintro e w' ⟨rfl | ⟨rfl, h200⟩, rfl⟩
  · go_wp2_with fail
    refine (wakes20_true _).mono ?_
    rintro e w' ⟨rfl, hu⟩
    have HU := Lib.hid hu
    clear hu
    go_wp2_with fail
    go_ret
    exact ⟨rfl, HU.out.below⟩
  · have hn63 : (n : Int) ≤ 200 := by omega
    go_wp2_with fail
    refine (pnew_any w).mono ?_
    rintro e w1 ⟨p, rfl, hu1, hd1⟩
    obtain ⟨bd, rfl⟩ := hd1.ptr
    have HU1 := Lib.hid hu1
    have HD1 := Lib.hid hd1
    clear hu1 hd1
    go_wp2_with fail
    obtain ⟨W0, hW0⟩ : ∃ W0, W0 = (((w1.alloc (Obj.map #[] 0)).alloc (Obj.map #[] 0)).alloc (Obj.map #[] 0)).alloc (Obj.map #[] 0) := ⟨_, rfl⟩
    obtain ⟨m4, hm4⟩ : ∃ m, m = w1.heap.size + 1 + 1 + 1 := ⟨_, rfl⟩
    obtain ⟨m3, hm3⟩ : ∃ m, m = w1.heap.size + 1 + 1 := ⟨_, rfl⟩
    obtain ⟨m2, hm2⟩ : ∃ m, m = w1.heap.size + 1 := ⟨_, rfl⟩
    obtain ⟨m1, hm1⟩ : ∃ m, m = w1.heap.size := ⟨_, rfl⟩
    rw [← hW0, ← hm4, ← hm3, ← hm2, ← hm1]
    have hu0 : Upd (fun _ => False) w1 W0 := by rw [hW0]; exact ((((Upd.refl _ _).alloc _).alloc _).alloc _).alloc _
    have HM0 : Hid (OMem w (fun k => w.heap.size ≤ k ∧ k < w1.heap.size) (.pointer (some ⟨bd, 0, none⟩)) m1 m2 m3 m4 [] 0 (fun _ => none) (fun _ => none) (fun _ => none) (fun _ => none) 0 W0) := by
      refine ⟨HU1.out.trans hu0 (fun _ _ h => h), fun j hj => hj.1, HD1.out.upd hu0 (fun _ _ h => h), ⟨_, ?_, rdF_nil⟩, ⟨_, ?_, rdF_nil⟩, ⟨_, ?_, rdF_nil⟩, ⟨_, ?_, rdF_nil⟩, by rw [hm1]; exact HU1.out.size, by omega, by omega, by omega, fun j hj => by rw [hm1]; exact hj.2⟩
      · rw [hW0]; exact (((made_at w1 sR hm1).alloc _).alloc _).alloc _
      · rw [hW0]; exact ((made_at (w1.alloc _) uR (by rw [hm2]; simp)).alloc _).alloc _
      · rw [hW0]; exact (made_at ((w1.alloc _).alloc _) uR (by rw [hm3]; simp)).alloc _
      · rw [hW0]; exact made_at (((w1.alloc _).alloc _).alloc _) bR (by rw [hm4]; simp)
    obtain ⟨FD, hFD⟩ : ∃ F : Nat → Prop, F = fun k => w.heap.size ≤ k ∧ k < w1.heap.size := ⟨_, rfl⟩
    rw [← hFD] at HM0
    clear hFD hu0 hm4 hm3 hm2 hm1 hW0 HD1 HU1
    go_loopw [8] (fun i wr => ∃ (k : Nat) (M : List PO) (last : Int) (V : Int → Option ByteArray) (C H : Int → Option Int) (G : Int → Option Bool), k ≤ n ∧ i = .int .i64 k ∧ M.length ≤ k ∧ OInv M last V C H G ∧ OMem w FD (.pointer (some ⟨bd, 0, none⟩)) m1 m2 m3 m4 M last V C H G (3 * k) wr) (fun i _ => n - (intOf i).toNat)
    case atStart => exact ⟨0, [], 0, _, _, _, _, Nat.zero_le _, rfl, Nat.le_refl _, oInv_nil, HM0.out⟩
    case round =>
      obtain ⟨k, M, last, V, C, H, G, hk, rfl, hML, hinv, hmem⟩ := hrel
      have HV := Lib.hid hinv
      have HW := Lib.hid hmem
      have HML := Lib.hid hML
      clear hinv hmem hML HM0
      by_cases hlt : k < n
      · obtain ⟨b, o, rfl, hbl, hc⟩ := HX.out (by omega)
        obtain ⟨cs, hgd, hcell⟩ := hc k hlt
        obtain ⟨d, _, rfl, hd, s, _, rfl, hs, v, _, rfl, hv, cf, _, rfl, hcf, nd, _, rfl, hnd, rfl⟩ := hgd
        have e0 := HW.out.upd.cell (p := ⟨b, o + (k * 5 + 0), none⟩) hbl id |>.trans (hcell 0 (by decide))
        have e1 := HW.out.upd.cell (p := ⟨b, o + (k * 5 + 1), none⟩) hbl id |>.trans (hcell 1 (by decide))
        have e2 := HW.out.upd.cell (p := ⟨b, o + (k * 5 + 2), none⟩) hbl id |>.trans (hcell 2 (by decide))
        have e3 := HW.out.upd.cell (p := ⟨b, o + (k * 5 + 3), none⟩) hbl id |>.trans (hcell 3 (by decide))
        have e4 := HW.out.upd.cell (p := ⟨b, o + (k * 5 + 4), none⟩) hbl id |>.trans (hcell 4 (by decide))
        rw [← Nat.add_assoc] at e1 e2 e3 e4
        rw [Nat.add_zero] at e0
        have e0 : wr.cell? ⟨b, o + k * 5, none⟩ = some (.int .u8 d) := e0
        have e1 : wr.cell? ⟨b, o + k * 5 + 1, none⟩ = some (.int .u64 s) := e1
        have e2 : wr.cell? ⟨b, o + k * 5 + 2, none⟩ = some (.string v) := e2
        have e3 : wr.cell? ⟨b, o + k * 5 + 3, none⟩ = some (.int .u8 cf) := e3
        have e4 : wr.cell? ⟨b, o + k * 5 + 4, none⟩ = some (.int .u8 nd) := e4
        obtain ⟨cf0, cf1⟩ := wf_u8 hcf
        obtain ⟨nd0, nd1⟩ := wf_u8 hnd
        have HS := Lib.hid hs
        have HB := Lib.hid (And.intro (And.intro cf0 cf1) (And.intro nd0 nd1))
        clear hcell hc hs hcf hnd hd hv cf0 cf1 nd0 nd1
        obtain ⟨W1, hW1⟩ : ∃ W1, W1 = wr.alloc (.cells #[.int .u8 d, .int .u64 s, .string v, .int .u8 cf, .int .u8 nd] 32) := ⟨_, rfl⟩
        obtain ⟨Bk, hBk⟩ : ∃ Bk, Bk = wr.heap.size := ⟨_, rfl⟩
        have HW1 : Hid (OMem w FD (.pointer (some ⟨bd, 0, none⟩)) m1 m2 m3 m4 M last V C H G (3 * k) W1) := by rw [hW1]; exact HW.out.step ((Upd.refl _ _).alloc _)
        have HBK : Hid (Blk W1 Bk 32 #[.int .u8 d, .int .u64 s, .string v, .int .u8 cf, .int .u8 nd]) := by rw [hW1]; exact Blk.newAt _ _ _ hBk
        have HQW : Hid (W1 = wr.alloc (.cells #[.int .u8 d, .int .u64 s, .string v, .int .u8 cf, .int .u8 nd] 32)) := hW1
        have HQB : Hid (Bk = wr.heap.size) := hBk
        clear hW1 hBk
        by_cases hd0 : d = 0
        · subst hd0
          by_cases hE : openE s cf last = 0
          · obtain ⟨hVn, hinv2⟩ := HV.out.open_ (v := v) HS.out HB.out.1.1 HB.out.1.2 hE
            have hl1 := lookS HS.out HW1.out.a1
            rw [hVn, HQW.out] at hl1
            clear hVn
            have hoM : openM M last s v cf = M ++ [⟨s, v, cf, 0⟩] := by unfold openM; rw [if_pos hE]
            have hoL : openL last s cf = s := by unfold openL; rw [if_pos hE]
            have HE3 := Lib.hid (And.intro hE (And.intro hoM hoL))
            have HI2 := Lib.hid hinv2
            clear hE hoM hoL hinv2
            go_wp2_with fail
            rw [← HQW.out, ← HQB.out]
            refine (popen_any HW1.out.desk s v cf (by have := (wf_u64' HS.out).1; omega) (by have := HML.out; omega) HV.out.le).mono ?_
            rw [HE3.out.1, HE3.out.2.1, HE3.out.2.2]
            rintro e w2 ⟨rfl, hu2, hd2⟩
            have HW2 := Lib.hid (HW1.out.onDesk hu2 hd2)
            have hm1l := HW.out.a1.lt
            have hB2 := HBK.out.upd hu2 (fun hf => by have := HW.out.f1 _ hf; have := HQB.out; omega)
            obtain ⟨w3, r3, hM3, hu3⟩ := HW2.out.on1 (by omega) HS.out v
            obtain ⟨w4, r4, hM4, hu4⟩ := hM3.on2 (by omega) HS.out cf
            have hB3 := hB2.upd hu3 (fun h => by have h := (show Bk = m1 from h); have := HQB.out; omega)
            have d1 : w2.cell? ⟨Bk, 1, none⟩ = some (.int .u64 s) := hB2.cell 1
            have d2 : w2.cell? ⟨Bk, 2, none⟩ = some (.string v) := hB2.cell 2
            have g1 : w3.cell? ⟨Bk, 1, none⟩ = some (.int .u64 s) := hB3.cell 1
            have g3 : w3.cell? ⟨Bk, 3, none⟩ = some (.int .u8 cf) := hB3.cell 3
            have HM4 := Lib.hid hM4
            clear hu2 hd2 hB2 hM3 hu3 hM4 hu4 hB3 hl1 hm1l e0 e1 e2 e3 e4
            go_wp2_with fail
            go_roundw
            case rel => exact ⟨k + 1, _, _, _, _, _, _, by omega, by go_num, by have := HML.out; simp; omega, HI2.out, HM4.out.more (by omega)⟩
            case measure => simp [intOf]; omega
          · have hoM : openM M last s v cf = M := by unfold openM; rw [if_neg hE]
            have hoL : openL last s cf = last := by unfold openL; rw [if_neg hE]
            have hl1 := lookS HS.out HW1.out.a1
            rw [HQW.out] at hl1
            generalize (V s).isSome = had at *
            generalize (V s).getD ByteArray.empty = vv at *
            have HE3 := Lib.hid (And.intro hoM hoL)
            clear hoM hoL
            obtain ⟨ev, hev⟩ : ∃ ev, openE s cf last = ev := ⟨_, rfl⟩
            rw [hev] at hE
            have HEV := Lib.hid hev
            clear hev
            have hE' : (ev != 0) = true := by simpa using hE
            clear hE
            go_wp2_with fail
            rw [← HQW.out, ← HQB.out]
            refine (popen_any HW1.out.desk s v cf (by have := (wf_u64' HS.out).1; omega) (by have := HML.out; omega) HV.out.le).mono ?_
            rw [HEV.out, HE3.out.1, HE3.out.2]
            rintro e w2 ⟨rfl, hu2, hd2⟩
            have HW2 := Lib.hid (HW1.out.onDesk hu2 hd2)
            clear hu2 hd2 hl1 e0 e1 e2 e3 e4
            go_wp2_with fail
            go_roundw
            case rel => exact ⟨k + 1, _, _, _, _, _, _, by omega, by go_num, by have := HML.out; omega, HV.out, HW2.out.more (by omega)⟩
            case measure => simp [intOf]; omega
        have hd0' : (d == 0) = false := beq_eq_false_iff_ne.2 hd0
        clear hd0
        by_cases hd1 : d = 1
        · subst hd1
          clear hd0'
          go_wp2_with fail
          rw [← HQW.out, ← HQB.out]
          refine (pclose_any HW1.out.desk HV.out.rising s HS.out).mono ?_
          rintro e w2 ⟨rfl, hu2, hd2⟩
          have HW2 := Lib.hid (HW1.out.onDesk hu2 hd2)
          have hm1l := HW.out.a4.lt
          have hB2 := HBK.out.upd hu2 (fun hf => by have := HW.out.f1 _ hf; have := HW.out.a1.lt; have := HQB.out; omega)
          have hl1 := lookS HS.out HW2.out.a1
          obtain ⟨w3, r3, hM3, hu3⟩ := HW2.out.on4 (by omega) HS.out (V s).isSome
          have HI2 := Lib.hid (HV.out.close s)
          have HM3 := Lib.hid hM3
          have d1 : w2.cell? ⟨Bk, 1, none⟩ = some (.int .u64 s) := hB2.cell 1
          have HCL : Hid ((closeM M s).length ≤ M.length) := by show _ ≤ _; unfold closeM; exact List.length_filter_le _ _
          clear hu2 hd2 hB2 hM3 hu3 hm1l e0 e1 e2 e3 e4
          generalize (V s).isSome = had at *
          generalize (V s).getD ByteArray.empty = vv at *
          go_wp2_with fail
          go_roundw
          case rel => exact ⟨k + 1, _, _, _, _, _, _, by omega, by go_num, by have := HML.out; have := HCL.out; omega, HI2.out, HM3.out.more (by omega)⟩
          case measure => simp [intOf]; omega
        have hd1' : (d == 1) = false := beq_eq_false_iff_ne.2 hd1
        clear hd1
        go_wp2_with fail
        rw [← HQW.out, ← HQB.out]
        obtain ⟨M2, ⟨x1, x2⟩, is, hP⟩ : ∃ M2 x is, votedP M nd s = (M2, x, is) := ⟨_, _, _, rfl⟩
        have hvt := HV.out.vote (s := s) (n := nd) HB.out.2.1 HB.out.2.2
        rw [hP] at hvt
        obtain ⟨hv1, hv2, hv3⟩ := hvt
        refine (pvoted_any HW1.out.desk HV.out.rising nd s HS.out HB.out.2.1 HB.out.2.2 (by have := HML.out; omega)).mono ?_
        rw [hP]
        unfold itemV
        rintro e w2 ⟨rfl, hu2, hd2⟩
        have HW2 := Lib.hid (HW1.out.onDesk hu2 hd2)
        have hB2 := HBK.out.upd hu2 (fun hf => by have := HW.out.f1 _ hf; have := HW.out.a1.lt; have := HQB.out; omega)
        obtain ⟨W3, hW3⟩ : ∃ W3, W3 = w2.alloc (.cells #[.int .u64 x1, .string x2] 41) := ⟨_, rfl⟩
        obtain ⟨Ib, hIb⟩ : ∃ Ib, Ib = w2.heap.size := ⟨_, rfl⟩
        have hBk3 : Blk W3 Bk 32 #[.int .u8 d, .int .u64 s, .string v, .int .u8 cf, .int .u8 nd] := by rw [hW3]; exact hB2.alloc _
        have hI3 : Blk W3 Ib 41 #[.int .u64 x1, .string x2] := by rw [hW3]; exact Blk.newAt _ _ _ hIb
        have HW3 : Hid (OMem w FD (.pointer (some ⟨bd, 0, none⟩)) m1 m2 m3 m4 M2 last V C H G (3 * k) W3) := by rw [hW3]; exact HW2.out.step ((Upd.refl _ _).alloc _)
        have HLM : Hid (M2.length ≤ k) := by
          have h2 := HML.out
          show _ ≤ _
          have h3 : (votedP M nd s).1.length ≤ M.length := by
            unfold votedP
            split
            · exact Nat.le_refl _
            · split
              · unfold closeM; exact List.length_filter_le _ _
              · unfold setM; rw [List.length_map]; exact Nat.le_refl _
          rw [hP] at h3
          exact Nat.le_trans h3 h2
        have HP := Lib.hid (And.intro hv1 (And.intro hv2 hv3))
        have HBK3 := Lib.hid hBk3
        have HI3 := Lib.hid hI3
        clear hv1 hv2 hv3 hu2 hd2 hB2 hP e0 e1 e2 e3 e4 hd0' hd1' hBk3 hI3
        have hl1 := lookS HS.out HW3.out.a1
        have hl2 := lookW HS.out HW3.out.a2
        have hl3 := lookW HS.out HW3.out.a3
        have hl4 := lookB HS.out HW3.out.a4
        have d1 : W3.cell? ⟨Bk, 1, none⟩ = some (.int .u64 s) := HBK3.out.cell 1
        have d4 : W3.cell? ⟨Bk, 4, none⟩ = some (.int .u8 nd) := HBK3.out.cell 4
        obtain ⟨vv, hvv⟩ : ∃ vv, (V s).getD ByteArray.empty = vv := ⟨_, rfl⟩
        obtain ⟨had, hhad⟩ : ∃ had, (V s).isSome = had := ⟨_, rfl⟩
        obtain ⟨cv, hcv⟩ : ∃ cv, (C s).getD 0 = cv := ⟨_, rfl⟩
        obtain ⟨wv, hwv⟩ : ∃ wv, (H s).getD 0 = wv := ⟨_, rfl⟩
        obtain ⟨gn, hgn⟩ : ∃ gn, (G s).getD false = gn := ⟨_, rfl⟩
        rw [hvv, hhad] at hl1
        rw [hcv] at hl2
        rw [hwv] at hl3
        rw [hgn] at hl4
        have HEQ := Lib.hid (And.intro hvv (And.intro hhad (And.intro hcv (And.intro hwv hgn))))
        clear hvv hhad hcv hwv hgn
        have HWI := Lib.hid (And.intro hW3 hIb)
        rw [hW3] at hl1 hl2 hl3 hl4 d1 d4
        clear hW3 hIb
        cases had
        · obtain rfl : gn = false := by
            have h1 := HV.out.nope s (by have h2 := HEQ.out.2.1; cases h3 : V s with | none => rfl | some _ => rw [h3] at h2; cases h2)
            rw [← HEQ.out.2.2.2.2]; exact h1.1
          have hop : openO V G s = false := by unfold openO; rw [HEQ.out.2.1, HEQ.out.2.2.2.2]; rfl
          obtain rfl : is = false := by have h := HP.out.1; unfold wantN at h; rw [hop] at h; exact h
          have hH : voteH V C H G nd s = H := by unfold voteH takeN; rw [hop]; rfl
          obtain ⟨w4, r4, hM4, hu4⟩ := HW3.out.on4 (by omega) HS.out false
          have HM4 := Lib.hid hM4
          have HI2 := Lib.hid HP.out.2.2
          rw [HEQ.out.2.2.2.2, hH] at HI2
          rw [HWI.out.1] at r4
          clear hM4 hu4 hop hH
          go_wp2_with fail
          go_roundw
          case rel => exact ⟨k + 1, _, _, _, _, _, _, by omega, by go_num, by have := HLM.out; omega, HI2.out, HM4.out.more (by omega)⟩
          case measure => simp [intOf]; omega
        cases gn
        case true =>
          have hop : openO V G s = false := by unfold openO; rw [HEQ.out.2.1, HEQ.out.2.2.2.2]; rfl
          obtain rfl : is = false := by have h := HP.out.1; unfold wantN at h; rw [hop] at h; exact h
          have hH : voteH V C H G nd s = H := by unfold voteH takeN; rw [hop]; rfl
          obtain ⟨w4, r4, hM4, hu4⟩ := HW3.out.on4 (by omega) HS.out true
          have HM4 := Lib.hid hM4
          have HI2 := Lib.hid HP.out.2.2
          rw [HEQ.out.2.2.2.2, hH] at HI2
          rw [HWI.out.1] at r4
          clear hM4 hu4 hop hH
          go_wp2_with fail
          go_roundw
          case rel => exact ⟨k + 1, _, _, _, _, _, _, by omega, by go_num, by have := HLM.out; omega, HI2.out, HM4.out.more (by omega)⟩
          case measure => simp [intOf]; omega
        have hop : openO V G s = true := by unfold openO; rw [HEQ.out.2.1, HEQ.out.2.2.2.2]; rfl
        have d4' := d4
        obtain ⟨hq, hhq⟩ : ∃ hq, (decide (nd < 7) && has7 cv nd.toNat) = hq := ⟨_, rfl⟩
        have HHQ := Lib.hid hhq
        obtain ⟨hcv0, hcv1⟩ : 0 ≤ cv ∧ cv ≤ 255 := by
          obtain ⟨o, ho, e, _⟩ := HV.out.opened hop
          obtain ⟨_, h2, _, h4, _⟩ := HV.out.mem o ho
          rw [e] at h2
          rw [← HEQ.out.2.2.1, h2]
          exact h4
        have HCV := Lib.hid (And.intro hcv0 hcv1)
        have htk : takeN V C G nd s = hq := by unfold takeN; rw [hop, HEQ.out.2.2.1, ← hhq]; rfl
        have HTK := Lib.hid htk
        have HOP := Lib.hid hop
        clear hhq hcv0 hcv1 htk hop d4'
        go_wp2_with fail
        refine (has_any cv nd _ HCV.out.1 HCV.out.2 HB.out.2.1 HB.out.2.2).mono ?_
        rw [HHQ.out]
        rintro e w' ⟨rfl, rfl⟩
        cases hq
        · have hH : voteH V C H G nd s = H := by unfold voteH; rw [HTK.out]; rfl
          have hmj : setMaj cv wv = is := by
            have h := HP.out.1
            unfold wantN at h
            rw [HOP.out, hH, HEQ.out.2.2.1, HEQ.out.2.2.2.1] at h
            exact h.symm
          have HMJ := Lib.hid hmj
          have HI2 := Lib.hid HP.out.2.2
          rw [HEQ.out.2.2.2.2, hH] at HI2
          clear hmj hH
          go_wp2_with fail
          rw [← HWI.out.1, ← HWI.out.2]
          refine (major_any cv wv _).mono ?_
          rw [HMJ.out]
          rintro e w' ⟨rfl, rfl⟩
          clear hl1 hl2 hl3 hl4 d1 d4
          have hl4 := lookB HS.out HW3.out.a4
          rw [HEQ.out.2.2.2.2] at hl4
          have d1 : W3.cell? ⟨Bk, 1, none⟩ = some (.int .u64 s) := HBK3.out.cell 1
          have i0 : W3.cell? ⟨Ib, 0, none⟩ = some (.int .u64 x1) := HI3.out.cell 0
          have i1 : W3.cell? ⟨Ib, 1, none⟩ = some (.string x2) := HI3.out.cell 1
          obtain ⟨w4, r4, hM4, hu4⟩ := HW3.out.on4 (by omega) HS.out is
          have HM4 := Lib.hid hM4
          clear hM4 hu4
          cases is
          · go_wp2_with fail
            go_roundw
            case rel => exact ⟨k + 1, _, _, _, _, _, _, by omega, by go_num, by have := HLM.out; omega, HI2.out, HM4.out.more (by omega)⟩
            case measure => simp [intOf]; omega
          · obtain ⟨rfl, rfl⟩ : x1 = s ∧ x2 = vv := by
              have h := HP.out.2.1 rfl
              rw [HEQ.out.1] at h
              exact ⟨congrArg Prod.fst h, congrArg Prod.snd h⟩
            go_wp2_with fail
            go_roundw
            case rel => exact ⟨k + 1, _, _, _, _, _, _, by omega, by go_num, by have := HLM.out; omega, HI2.out, HM4.out.more (by omega)⟩
            case measure => simp [intOf]; omega
        · have hH : voteH V C H G nd s = setF H s (setWith wv (setOf1 nd)) := by unfold voteH whoN; rw [HTK.out, HEQ.out.2.2.2.1]; rfl
          have hmj : setMaj cv (setWith wv (setOf1 nd)) = is := by
            have h := HP.out.1
            unfold wantN at h
            rw [HOP.out, hH, HEQ.out.2.2.1, setF_same] at h
            exact h.symm
          have HMJ := Lib.hid hmj
          have HI2 := Lib.hid HP.out.2.2
          rw [HEQ.out.2.2.2.2, hH] at HI2
          obtain ⟨w5, r5, hM5, hu5⟩ := (HW3.out.step (((Upd.refl (fun _ => False) W3).alloc (.cells #[.int .u8 nd] 5)).drew)).on3 (by omega) HS.out (setWith wv (setOf1 nd))
          have HM5 := Lib.hid hM5
          have HU5 := Lib.hid hu5
          obtain ⟨nw, hnw⟩ : ∃ nw, setWith wv (setOf1 nd) = nw := ⟨_, rfl⟩
          have HNW := Lib.hid hnw
          rw [hnw] at r5 HM5 HMJ HI2
          have HB5 : Hid (Blk w5 Bk 32 #[.int .u8 d, .int .u64 s, .string v, .int .u8 cf, .int .u8 nd]) := (HBK3.out.alloc _).upd (Upd.refl (fun _ => False) (W3.alloc (.cells #[.int .u8 nd] 5))).drew id |>.upd HU5.out (fun h => by have h := (show Bk = m3 from h); have := HW.out.a3.lt; have := HQB.out; omega)
          have HI5 : Hid (Blk w5 Ib 41 #[.int .u64 x1, .string x2]) := (HI3.out.alloc _).upd (Upd.refl (fun _ => False) (W3.alloc (.cells #[.int .u8 nd] 5))).drew id |>.upd HU5.out (fun h => by have h := (show Ib = m3 from h); have h3 := HW2.out.a3.lt; have h4 := HWI.out.2; omega)
          clear hmj hH hM5 hu5 hnw hl1 hl2 hl3 hl4 d1 d4
          go_wp2_with fail
          rw [← HWI.out.1, ← HWI.out.2]
          have d1 : W3.cell? ⟨Bk, 1, none⟩ = some (.int .u64 s) := HBK3.out.cell 1
          have d4 : W3.cell? ⟨Bk, 4, none⟩ = some (.int .u8 nd) := HBK3.out.cell 4
          have q1 := lookW HS.out (HW3.out.step (Upd.refl (fun _ => False) W3).drew).a3
          have q2 := lookW HS.out (HW3.out.step (((Upd.refl (fun _ => False) W3).alloc (.cells #[.int .u8 nd] 5)).drew)).a3
          rw [HEQ.out.2.2.2.1] at q1 q2
          go_cut [] from 29 to 179 (fun wx => wx = w5)
          case first =>
            go_region_held3 (fun wx => wx.cell? ⟨Bk, 1, none⟩ = some (.int .u64 s) ∧ wx.cell? ⟨Bk, 4, none⟩ = some (.int .u8 nd))
              (first
                | exact ⟨d1, d4⟩
                | exact ⟨(HBK3.out.alloc _).cell 1, (HBK3.out.alloc _).cell 4⟩
                | exact ⟨HB5.out.cell 1, HB5.out.cell 4⟩)
              (first
                | (go_at_call 21; refine (of_one _ _ _ 5 (by exact Blk.new W3 5 #[.int .u8 nd]) HB.out.2.1 HB.out.2.2).mono ?_; rintro e w' ⟨rfl, rfl⟩)
                | (go_at_call 19; refine (with_any _ _ _).mono ?_; rw [HNW.out]; rintro e w' ⟨rfl, rfl⟩))
            all_goals (go_wp2_with fail; go_meet; exact rfl)
          case rest =>
            subst hcut
            have hl2 := lookW HS.out HM5.out.a2
            have hl3 := lookW HS.out HM5.out.a3
            have hl4 := lookB HS.out HM5.out.a4
            rw [HEQ.out.2.2.1] at hl2
            rw [setF_same, Option.getD_some] at hl3
            rw [HEQ.out.2.2.2.2] at hl4
            clear d1 d4 q1 q2 r5
            have d1 : wc.cell? ⟨Bk, 1, none⟩ = some (.int .u64 s) := HB5.out.cell 1
            have d4 : True := trivial
            have hl1 : True := trivial
            go_wp2_with fail
            refine (major_any cv nw _).mono ?_
            rw [HMJ.out]
            rintro e w' ⟨rfl, rfl⟩
            clear hl1 hl2 hl3 hl4 d1 d4
            have hl4 := lookB HS.out HM5.out.a4
            rw [HEQ.out.2.2.2.2] at hl4
            have d1 : wc.cell? ⟨Bk, 1, none⟩ = some (.int .u64 s) := HB5.out.cell 1
            have i0 : wc.cell? ⟨Ib, 0, none⟩ = some (.int .u64 x1) := HI5.out.cell 0
            have i1 : wc.cell? ⟨Ib, 1, none⟩ = some (.string x2) := HI5.out.cell 1
            obtain ⟨w4, r4, hM4, hu4⟩ := HM5.out.on4 (by omega) HS.out is
            have HM4 := Lib.hid hM4
            clear hM4 hu4
            cases is
            · go_wp2_with fail
              go_roundw
              case rel => exact ⟨k + 1, _, _, _, _, _, _, by omega, by go_num, by have := HLM.out; omega, HI2.out, HM4.out.more (by omega)⟩
              case measure => simp [intOf]; omega
            · obtain ⟨rfl, rfl⟩ : x1 = s ∧ x2 = vv := by
                have h := HP.out.2.1 rfl
                rw [HEQ.out.1] at h
                exact ⟨congrArg Prod.fst h, congrArg Prod.snd h⟩
              go_wp2_with fail
              go_roundw
              case rel => exact ⟨k + 1, _, _, _, _, _, _, by omega, by go_num, by have := HLM.out; omega, HI2.out, HM4.out.more (by omega)⟩
              case measure => simp [intOf]; omega
      · obtain ⟨D, hown, hRd⟩ := HW.out.a1
        have hm4l := HW.out.a4.lt
        have HRD := Lib.hid hRd
        have HOW := Lib.hid hown
        have HM4L := Lib.hid hm4l
        have hk200 : k ≤ 200 := by omega
        clear hRd hown hm4l hk
        obtain ⟨r, hr⟩ : ∃ r, r = wr.heap.size := ⟨_, rfl⟩
        go_wp2_with (at_range; refine wpList_range_own _ rfl _ 57 rfl 28 9 keyedU Try.underlying57 sR m1 (3 * k) D rfl HOW.out ?_; intro w0 hrg0 hg0 hs0)
        go_frame
        rw [← hr] at hrg0 ⊢
        have hm0 := HW.out.far (r := r) (by have := HM4L.out; omega) (Upd.grown (F := fun j => j = r) (Upd.refl _ _) hg0 (fun j e => by cases e))
        have HM0 := Lib.hid hm0
        have HRG0 := Lib.hid hrg0
        have HR := Lib.hid hr
        clear hm0 hg0 hs0 hrg0 hr
        go_loopw [19] (fun cn wx => ∃ (left : Lit → Bool) (cnt : Nat) (ss : List Int) (q : Nat), cn = .int .i64 q ∧ q = (ss.filter (fun t => !((G t).getD false))).length ∧ q + cnt ≤ Maps.size D ∧ wx.ranges Try.prog 28 sR m1 r (3 * k) D left cnt ∧ ComeF V left ss ∧ OMem w FD (.pointer (some ⟨bd, 0, none⟩)) m1 m2 m3 m4 M last V C H G (3 * k) wx)
          (fun _ wx => wx.rangeLeft m1 r)
        case atStart => exact ⟨_, _, [], 0, rfl, rfl, by simp, HRG0.out, comeF_start HRD.out, HM0.out⟩
        case round =>
          obtain ⟨left, cnt, ss, q, rfl, hq, hqc, hrg, hC, hm⟩ := hrel
          have HC := Lib.hid hC
          have HMM := Lib.hid hm
          have HQ := Lib.hid hq
          have HSZ : Hid (Maps.size D ≤ 3 * k) := HOW.out.size_le
          clear hC hm hq HRG0 HM0
          go_wp2_with (at_next; refine wpList_next_ranges _ rfl _ rfl 28 keyedU sR (Value.int .u64) Value.string (fun key kl hk => by obtain ⟨x, hx, _⟩ := keyOf_u64F hk; exact ⟨x, hx⟩) sR_shape m1 r (3 * k) _ _ _ rfl hrg ?_ ?_)
          · intro hc0 hl0
            have hcount := HV.out.count HC.out.1 (comeF_end HV.out HC.out hl0)
            rw [← HQ.out] at hcount
            subst hcount
            have HL0 := Lib.hid (And.intro hc0 hl0)
            clear hc0 hl0 hrg hqc
            go_wp2_with fail
            refine (pall_any sort_any HMM.out.desk HV.out.rising (by have := HML.out; omega) (by have := HML.out; omega)).mono ?_
            rintro e w3 ⟨v, rfl, hu3, ho3, _⟩
            obtain ⟨A, c3, rfl, _, _⟩ := row_shape ho3
            have HU3 := Lib.hid (HMM.out.upd.trans hu3 (fun _ _ h => h))
            clear hu3 ho3
            generalize M.length = ml at *
            go_wp2_with fail
            refine (wakes20_true _).mono ?_
            rintro e w4 ⟨rfl, hu4⟩
            have HU4 := Lib.hid (HU3.out.trans hu4 (fun _ _ h => h))
            clear hu4
            go_wp2_with fail
            go_ret
            exact ⟨rfl, HU4.out.below⟩
          · intro x c2 kl yd yp w2 cnt2 hkey hlk hv hat hrg2 hlt hg2 hs2 hen
            obtain ⟨x', ex, rfl, hwx⟩ := keyOf_u64F hkey
            simp only [Value.int.injEq, true_and] at ex
            subst ex
            have hm2 := HMM.out.far (r := r) (by have := HM4L.out; have := HR.out; omega) (Upd.grown (F := fun j => j = r) (Upd.refl _ _) hg2 (fun j e => .inl (by cases e; rfl)))
            have hl4 := lookB hwx hm2.a4
            have HM2 := Lib.hid hm2
            have HC2 := Lib.hid (comeF_step HRD.out HC.out hwx hlk hat)
            have HRG2 := Lib.hid hrg2
            have HLR : Hid (w2.rangeLeft m1 r < wr.rangeLeft m1 r) := by show _ < _; rw [hrg2.left_eq, hrg.left_eq]; exact hlt
            clear hs2 hg2 hm2 hv hat hrg2 hkey hlk hrg
            obtain ⟨gq, hgq⟩ : ∃ gq, (G x).getD false = gq := ⟨_, rfl⟩
            rw [hgq] at hl4
            have HGQ := Lib.hid hgq
            clear hgq
            have hq63 : (q : Int) ≤ 1000 := by have := HSZ.out; omega
            cases gq
            · go_wp2_with fail
              go_roundw
              case rel => exact ⟨_, cnt2, ss ++ [x], q + 1, by go_num, by rw [List.filter_append, List.length_append, ← HQ.out]; simp [HGQ.out], by omega, HRG2.out, HC2.out, HM2.out⟩
              case measure => exact HLR.out
            · go_wp2_with fail
              go_roundw
              case rel => exact ⟨_, cnt2, ss ++ [x], q, rfl, by rw [List.filter_append, List.length_append, ← HQ.out]; simp [HGQ.out], by omega, HRG2.out, HC2.out, HM2.out⟩
              case measure => exact HLR.out

end Go.Proofs.Ytbnmildjamjjmaa
