/-
  ProposePlays: the walk of the statement's own text. Conditions: none.
-/
import Derived.Test.YtbnmildjamjjmaaPlaysA
import Derived.Test.YtbnmildjamjjmaaSame20
import Derived.Test.YtbnmildjamjjmaaOnceA
namespace Go.Proofs.Ytbnmildjamjjmaa
open Go.RowKit Go.Maps

attribute [local irreducible] setLen setWith setBoth setMaj openE openBad votedP votedX openM openX openL closeM closeX setM setOf1

theorem wf_u64_lo {n : Int} (h : (Lit.int .u64 n).wf = true) : 0 ≤ n := by
  simp [Lit.wf, IntKind.min, IntKind.max, IntKind.signed, IntKind.bits] at h; omega
theorem act_cells {w wr : World} {b o k n : Nat} {cs : List Value} (hu : Upd (fun _ => False) w wr) (hb : b < w.heap.size) (h : ∀ j, j < n → w.cell? ⟨b, o + (k * n + j), none⟩ = cs[j]?) : ∀ j, j < n → wr.cell? ⟨b, o + k * n + j, none⟩ = cs[j]? := fun j hj => by
  rw [Nat.add_assoc]
  exact (hu.cell (p := ⟨b, o + (k * n + j), none⟩) hb id).trans (h j hj)

set_option maxRecDepth 100000 in
set_option maxHeartbeats 16000000 in
theorem proposePlays_walk (a : Option Addr) (n c : Nat) (w : World) (i1 : IsRows [.int .u8, .int .u64, .str, .int .u8, .int .u8] w a n c) :
    Calls Try.prog 3 #[.slice a n c] w fun e w' => e = .returned (.bool true) ∧ Below w.heap.size w w' := by
  obtain ⟨hlc, hm, hx⟩ := id i1
  have HX := Lib.hid hx
  have HI := Lib.hid i1
  clear hx hm hlc i1
  go_enter Try.func3, Try.ntmps3
  go_wp2_with fail
  refine (great_any a n c w HI.out).mono ?_
  rintro e w' ⟨rfl | ⟨rfl, h200⟩, rfl⟩
  · go_wp2_with fail
    refine (wakes20_true _).mono ?_
    rintro e w' ⟨rfl, hu⟩
    have HU := Lib.hid hu
    clear hu
    go_wp2_with fail
    go_ret
    exact ⟨rfl, HU.out.below⟩
  · have hn63 : (n : Int) ≤ 200 := by omega
    go_wp2_with fail
    refine (pnew_any w).mono ?_
    rintro e w1 ⟨p, rfl, hu1, hd1⟩
    obtain ⟨bd, rfl⟩ := hd1.ptr
    have HU1 := Lib.hid hu1
    have HD1 := Lib.hid hd1
    clear hu1 hd1
    go_wp2_with fail
    obtain ⟨W0, hW0⟩ : ∃ W0, W0 = w1.alloc (.cells #[.slice none 0 0, .int .u64 0] 30) := ⟨_, rfl⟩
    obtain ⟨bw, hbw⟩ : ∃ bw, bw = w1.heap.size := ⟨_, rfl⟩
    rw [← hW0, ← hbw]
    have hu0 : Upd (fun _ => False) w1 W0 := by rw [hW0]; exact (Upd.refl _ _).alloc _
    obtain ⟨FD, hFD⟩ : ∃ F : Nat → Prop, F = fun k => w.heap.size ≤ k ∧ k < w1.heap.size := ⟨_, rfl⟩
    have HM0 : Hid (PMem w FD (.pointer (some ⟨bd, 0, none⟩)) bw [] 0 (.slice none 0 0) [] 0 W0) := by
      refine ⟨HU1.out.trans hu0 (fun _ _ h => h), fun j hj => by rw [hFD] at hj; omega, by rw [hFD]; exact HD1.out.upd hu0 (fun _ _ h => h), by rw [hbw]; exact HU1.out.size, ?_, RDesk.nil _ _⟩
      rw [hW0]; exact Blk.newAt _ _ _ hbw
    clear hFD hu0 hbw hW0 HD1 HU1
    go_loopw [5] (fun i wr => ∃ (k : Nat) (M : List PO) (last : Int) (A : Option Addr) (ln cp : Nat) (L : List RX), k ≤ n ∧ i = .int .i64 k ∧ PInv M (L.map RX.px) last k ∧ PMem w FD (.pointer (some ⟨bd, 0, none⟩)) bw M last (.slice A ln cp) L last wr) (fun i _ => n - (intOf i).toNat)
    case atStart => exact ⟨0, [], 0, none, 0, 0, [], Nat.zero_le _, rfl, pInv_nil, HM0.out⟩
    case round =>
      obtain ⟨k, M, last, A, ln, cp, L, hk, rfl, hinv, hmem⟩ := hrel
      have HV := Lib.hid hinv
      have HW := Lib.hid hmem
      have HLL : Hid (L.length ≤ 200) := by
        have h1 := hinv.rel.len
        have h2 := hinv.len
        show _ ≤ _
        rw [List.length_map] at h1
        omega
      clear hinv hmem HM0
      by_cases hlt : k < n
      · obtain ⟨b, o, rfl, hbl, hc⟩ := HX.out (by omega)
        obtain ⟨cs, hgd, hcell⟩ := hc k hlt
        obtain ⟨d, _, rfl, hd, s, _, rfl, hs, v, _, rfl, hv, cf, _, rfl, hcf, nd, _, rfl, hnd, rfl⟩ := hgd
        have he := act_cells (n := 5) HW.out.upd hbl hcell
        have e0 : wr.cell? ⟨b, o + k * 5, none⟩ = some (.int .u8 d) := he 0 (by decide)
        have e1 : wr.cell? ⟨b, o + k * 5 + 1, none⟩ = some (.int .u64 s) := he 1 (by decide)
        have e2 : wr.cell? ⟨b, o + k * 5 + 2, none⟩ = some (.string v) := he 2 (by decide)
        have e3 : wr.cell? ⟨b, o + k * 5 + 3, none⟩ = some (.int .u8 cf) := he 3 (by decide)
        have e4 : wr.cell? ⟨b, o + k * 5 + 4, none⟩ = some (.int .u8 nd) := he 4 (by decide)
        obtain ⟨cf0, cf1⟩ := wf_u8 hcf
        obtain ⟨nd0, nd1⟩ := wf_u8 hnd
        have HS := Lib.hid hs
        have HB := Lib.hid (And.intro (And.intro cf0 cf1) (And.intro nd0 nd1))
        have HS0 : Hid (0 ≤ s) := (wf_u64_lo hs)
        clear he hcell hc hs hcf hnd hd hv cf0 cf1 nd0 nd1
        obtain ⟨W1, hW1⟩ : ∃ W1, W1 = wr.alloc (.cells #[.int .u8 d, .int .u64 s, .string v, .int .u8 cf, .int .u8 nd] 32) := ⟨_, rfl⟩
        obtain ⟨Bk, hBk⟩ : ∃ Bk, Bk = wr.heap.size := ⟨_, rfl⟩
        have HW1 : Hid (PMem w FD (.pointer (some ⟨bd, 0, none⟩)) bw M last (.slice A ln cp) L last W1) := by rw [hW1]; exact HW.out.step ((Upd.refl _ _).alloc _)
        have HBK : Hid (Blk W1 Bk 32 #[.int .u8 d, .int .u64 s, .string v, .int .u8 cf, .int .u8 nd]) := by rw [hW1]; exact Blk.newAt _ _ _ hBk
        have HQW : Hid (W1 = wr.alloc (.cells #[.int .u8 d, .int .u64 s, .string v, .int .u8 cf, .int .u8 nd] 32)) := hW1
        have HQB : Hid (Bk = wr.heap.size) := hBk
        have HNB : Hid (Bk ≠ bw) := by have := HW.out.blk.lt; show Bk ≠ bw; omega
        have HBF : Hid (¬ FD Bk) := fun hf => by have := HW.out.old _ hf; have := HW.out.blk.lt; omega
        have c0 : W1.cell? ⟨bw, 0, none⟩ = some (.slice A ln cp) := HW1.out.blk.cell 0
        have c1 : W1.cell? ⟨bw, 1, none⟩ = some (.int .u64 last) := HW1.out.blk.cell 1
        have c0' := c0
        have c1' := c1
        rw [hW1] at c0' c1'
        clear hW1 hBk
        by_cases hd0 : d = 0
        · subst hd0
          go_wp2_with fail
          rw [← HQW.out, ← HQB.out]
          refine (rdopen_any HW1.out.ref (fun g hg => hg.2) last s v cf (by have := HLL.out; omega) HS0.out HB.out.1.1 HB.out.1.2).mono ?_
          rintro e w2 ⟨v2, L2, rfl, hu2, hr2, hL2⟩
          obtain ⟨A2, n2, cp2, rfl⟩ := hr2.slice
          have hV5 := HV.out.open_ v HS.out HS0.out HB.out.1.1 HB.out.1.2 (last := last) (slot := s) (cfg := cf)
          rw [← hL2] at hV5
          have HV5 := Lib.hid hV5
          obtain ⟨l2, hl2⟩ : ∃ l2, openL last s cf = l2 := ⟨_, rfl⟩
          obtain ⟨ev, hev⟩ : ∃ ev, openE s cf last = ev := ⟨_, rfl⟩
          rw [hl2, hev]
          rw [hl2] at HV5
          have HEQ := Lib.hid (And.intro hl2 hev)
          have hb3 := (HBK.out.upd hu2 id).alloc (.cells #[.slice A2 n2 cp2, .int .u64 l2] 30)
          have hw3 := (HW1.out.step hu2).step ((Upd.refl _ _).alloc (.cells #[.slice A2 n2 cp2, .int .u64 l2] 30))
          have hm4 := HW1.out.onRef (v' := .slice A2 n2 cp2) (L' := L2) (lastR' := l2) (hu2.alloc (.cells #[.slice A2 n2 cp2, .int .u64 l2] 30)) ((hr2.upd ((Upd.refl (fun _ => False) _).alloc _) (fun _ _ h => h)).more (fun g hg => by have h1 := hu2.size; have h2 := HW1.out.blk.lt; simp only [World.size_alloc]; omega))
          have hb4 := (hb3.far (p := ⟨bw, 0, none⟩) HNB.out (.slice A2 n2 cp2)).far (p := ⟨bw, 1, none⟩) HNB.out (.int .u64 l2)
          have f0 := hw3.blk.cell 0
          have f1 := hw3.blk.cell 1
          have g0 := hw3.blk.frozen 0
          have g1 := hw3.blk.frozen 1
          simp only [List.getElem?_toArray, List.getElem?_cons_zero, List.getElem?_cons_succ] at f0 f1
          have k1 := hb4.cell 1
          have k2 := hb4.cell 2
          have k3 := hb4.cell 3
          simp only [List.getElem?_toArray, List.getElem?_cons_zero, List.getElem?_cons_succ] at k1 k2 k3
          have HM4 := Lib.hid hm4
          clear hu2 hr2 hL2 hV5 hl2 hev hb3 hw3 hm4 hb4 c0 c1 c0' c1' e0 e1 e2 e3 e4
          go_wp2_with fail
          refine (popen_any HM4.out.desk s v cf HS0.out (by have := HV.out.len; omega) HV.out.le).mono ?_
          rw [HEQ.out.1, HEQ.out.2]
          rintro e w5 ⟨rfl, hu5, hd5⟩
          have HW5 := Lib.hid (HM4.out.onDesk hu5 hd5)
          clear hu5 hd5 f0 f1 g0 g1 k1 k2 k3
          have q0 : w5.cell? ⟨bw, 0, none⟩ = some (.slice A2 n2 cp2) := HW5.out.blk.cell 0
          have q1 : w5.cell? ⟨bw, 1, none⟩ = some (.int .u64 l2) := HW5.out.blk.cell 1
          go_wp2_with fail
          refine (same_any HW5.out.desk HV5.out.rising HW5.out.ref (fun g hg => hg.2) HV5.out.rel (by have := HV5.out.len; omega) (fun x hx => by have := HV5.out.lens x.px (List.mem_map.2 ⟨x, hx, rfl⟩); simp only [RX.px] at this; omega)).mono ?_
          rintro e w9 ⟨rfl, hu9⟩
          have HW9 := Lib.hid (HW5.out.step hu9)
          clear hu9 q0 q1
          go_wp2_with fail
          go_roundw
          case rel => exact ⟨k + 1, _, _, _, _, _, _, by omega, by go_num, HV5.out, HW9.out⟩
          case measure => simp [intOf]; omega
        have hd0' : (d == 0) = false := beq_eq_false_iff_ne.2 hd0
        clear hd0
        by_cases hd1 : d = 1
        · subst hd1
          clear hd0'
          go_wp2_with fail
          rw [← HQW.out, ← HQB.out]
          refine (pclose_any HW1.out.desk HV.out.rising s HS.out).mono ?_
          rintro e w2 ⟨rfl, hu2, hd2⟩
          have hm2 := HW1.out.onDesk hu2 hd2
          have hb2 := HBK.out.upd hu2 HBF.out
          have f0 := hm2.blk.cell 0
          have f1 := hm2.blk.cell 1
          simp only [List.getElem?_toArray, List.getElem?_cons_zero, List.getElem?_cons_succ] at f0 f1
          have k1 := hb2.cell 1
          simp only [List.getElem?_toArray, List.getElem?_cons_zero, List.getElem?_cons_succ] at k1
          have HM2 := Lib.hid hm2
          clear hu2 hd2 hm2 hb2 c0 c1 c0' c1' e0 e1 e2 e3 e4
          go_wp2_with fail
          refine (rdclose_any HM2.out.ref (fun g hg => hg.2) last s (by have := HLL.out; omega)).mono ?_
          rintro e w3 ⟨v3, rfl, hu3, hr3⟩
          obtain ⟨A2, n2, cp2, rfl⟩ := hr3.slice
          have hV5 := HV.out.close s
          rw [← closeR_px] at hV5
          have HV5 := Lib.hid hV5
          have hw3 := HM2.out.step hu3
          have f0 := hw3.blk.cell 0
          have f1 := hw3.blk.cell 1
          have g0 := hw3.blk.frozen 0
          have g1 := hw3.blk.frozen 1
          simp only [List.getElem?_toArray, List.getElem?_cons_zero, List.getElem?_cons_succ] at f0 f1
          have HW5 := Lib.hid (HM2.out.onRef (v' := .slice A2 n2 cp2) (L' := closeR L s) (lastR' := last) hu3 (hr3.more (fun g hg => by have h1 := hu3.size; have h2 := HM2.out.blk.lt; omega)))
          clear hV5 hu3 hr3 hw3 k1
          have q0 : ((w3.setCell ⟨bw, 0, none⟩ (.slice A2 n2 cp2)).setCell ⟨bw, 1, none⟩ (.int .u64 last)).cell? ⟨bw, 0, none⟩ = some (.slice A2 n2 cp2) := HW5.out.blk.cell 0
          have q1 : ((w3.setCell ⟨bw, 0, none⟩ (.slice A2 n2 cp2)).setCell ⟨bw, 1, none⟩ (.int .u64 last)).cell? ⟨bw, 1, none⟩ = some (.int .u64 last) := HW5.out.blk.cell 1
          go_wp2_with fail
          refine (same_any HW5.out.desk HV5.out.rising HW5.out.ref (fun g hg => hg.2) HV5.out.rel (by have := HV5.out.len; omega) (fun x hx => by have := HV5.out.lens x.px (List.mem_map.2 ⟨x, hx, rfl⟩); simp only [RX.px] at this; omega)).mono ?_
          rintro e w9 ⟨rfl, hu9⟩
          have HW9 := Lib.hid (HW5.out.step hu9)
          clear hu9 q0 q1
          go_wp2_with fail
          go_roundw
          case rel => exact ⟨k + 1, _, _, _, _, _, _, by omega, by go_num, HV5.out, HW9.out⟩
          case measure => simp [intOf]; omega
        have hd1' : (d == 1) = false := beq_eq_false_iff_ne.2 hd1
        clear hd1
        obtain ⟨hV5, hEQ⟩ := HV.out.vote HB.out.2.1 HB.out.2.2 s (n := nd)
        have HV5a := Lib.hid hV5
        have HEQ := Lib.hid hEQ
        clear hV5 hEQ
        go_wp2_with fail
        rw [← HQW.out, ← HQB.out]
        refine (pvoted_any HW1.out.desk HV.out.rising nd s HS.out HB.out.2.1 HB.out.2.2 (by have := HV.out.len; omega)).mono ?_
        rw [HEQ.out]
        obtain ⟨⟨x1, x2⟩, is, hxi⟩ : ∃ x is, (votedX (L.map RX.px) nd s).2 = (x, is) := ⟨_, _, rfl⟩
        rw [hxi]
        unfold itemV
        rintro e w2 ⟨rfl, hu2, hd2⟩
        have HXI := Lib.hid hxi
        have hm3 := (HW1.out.onDesk hu2 hd2).step ((Upd.refl _ _).alloc (.cells #[.int .u64 x1, .string x2] 41))
        have hb3 := (HBK.out.upd hu2 HBF.out).alloc (.cells #[.int .u64 x1, .string x2] 41)
        have HI3 := Lib.hid (Blk.new w2 41 #[.int .u64 x1, .string x2])
        have f0 := hm3.blk.cell 0
        have f1 := hm3.blk.cell 1
        simp only [List.getElem?_toArray, List.getElem?_cons_zero, List.getElem?_cons_succ] at f0 f1
        have k1 := hb3.cell 1
        have k4 := hb3.cell 4
        simp only [List.getElem?_toArray, List.getElem?_cons_zero, List.getElem?_cons_succ] at k1 k4
        have HM3 := Lib.hid hm3
        have HZ2 : Hid (bw < w2.heap.size) := by have := hu2.size; have := HW1.out.blk.lt; show bw < _; omega
        clear hu2 hd2 hm3 hb3 hxi c0 c1 c0' c1' e0 e1 e2 e3 e4
        go_wp2_with fail
        refine (rdvoted_any HM3.out.ref (fun g hg => hg.2) last nd s (by have := HLL.out; omega) (fun x hx => by have := HV.out.lens x.px (List.mem_map.2 ⟨x, hx, rfl⟩); simp only [RX.px] at this; omega)).mono ?_
        rw [HXI.out]
        unfold itemV
        rintro e w4 ⟨v4, L4, rfl, hu4, hr4, hL4⟩
        obtain ⟨A2, n2, cp2, rfl⟩ := hr4.slice
        have HV5 := HV5a
        rw [← hL4] at HV5
        obtain ⟨W5, hW5⟩ : ∃ W5, W5 = (w4.alloc (.cells #[.slice A2 n2 cp2, .int .u64 last] 30)).alloc (.cells #[.int .u64 x1, .string x2] 41) := ⟨_, rfl⟩
        have hu5 : Upd (fun _ => False) w4 W5 := by rw [hW5]; exact ((Upd.refl _ _).alloc _).alloc _
        have hw5 := (HM3.out.step hu4).step hu5
        have f0 := hw5.blk.cell 0
        have f1 := hw5.blk.cell 1
        have g0 := hw5.blk.frozen 0
        have g1 := hw5.blk.frozen 1
        simp only [List.getElem?_toArray, List.getElem?_cons_zero, List.getElem?_cons_succ] at f0 f1
        have hi5 := (HI3.out.upd hu4 id).upd hu5 id
        have hj5 : Blk W5 (w4.heap.size + 1) 41 #[.int .u64 x1, .string x2] := by rw [hW5]; exact Blk.newAt _ _ _ (by simp)
        have hr5 := hr4.upd hu5 (fun _ _ h => h)
        have HW5 := Lib.hid (HM3.out.onRef (v' := .slice A2 n2 cp2) (L' := L4) (lastR' := last) (hu4.trans hu5 (fun _ _ h => h)) (hr5.more (fun g hg => by have h1 := hu4.size; have h2 := HM3.out.blk.lt; have h3 := hu5.size; omega)))
        have hz4 := hu4.size
        have hz2 := HZ2.out
        simp only [World.size_alloc] at hz4
        have hi6 := (hi5.far (p := ⟨bw, 0, none⟩) (by show w2.heap.size ≠ bw; omega) (.slice A2 n2 cp2)).far (p := ⟨bw, 1, none⟩) (by show w2.heap.size ≠ bw; omega) (.int .u64 last)
        have hj6 := (hj5.far (p := ⟨bw, 0, none⟩) (by show w4.heap.size + 1 ≠ bw; omega) (.slice A2 n2 cp2)).far (p := ⟨bw, 1, none⟩) (by show w4.heap.size + 1 ≠ bw; omega) (.int .u64 last)
        have i0 := hi6.cell 0
        have i1 := hi6.cell 1
        have j0 := hj6.cell 0
        have j1 := hj6.cell 1
        simp only [List.getElem?_toArray, List.getElem?_cons_zero, List.getElem?_cons_succ] at i0 i1 j0 j1
        rw [hW5] at f0 f1 g0 g1 i0 i1 j0 j1
        have HW5E := Lib.hid hW5
        clear hu4 hr4 hL4 hu5 hw5 hi5 hj5 hr5 hz4 hz2 hi6 hj6 hW5 k1 k4
        go_wp2_with fail
        rw [← HW5E.out]
        clear f0 f1 g0 g1 i0 i1 j0 j1
        have q0 : ((W5.setCell ⟨bw, 0, none⟩ (.slice A2 n2 cp2)).setCell ⟨bw, 1, none⟩ (.int .u64 last)).cell? ⟨bw, 0, none⟩ = some (.slice A2 n2 cp2) := HW5.out.blk.cell 0
        have q1 : ((W5.setCell ⟨bw, 0, none⟩ (.slice A2 n2 cp2)).setCell ⟨bw, 1, none⟩ (.int .u64 last)).cell? ⟨bw, 1, none⟩ = some (.int .u64 last) := HW5.out.blk.cell 1
        go_wp2_with fail
        refine (same_any HW5.out.desk HV5.out.rising HW5.out.ref (fun g hg => hg.2) HV5.out.rel (by have := HV5.out.len; omega) (fun x hx => by have := HV5.out.lens x.px (List.mem_map.2 ⟨x, hx, rfl⟩); simp only [RX.px] at this; omega)).mono ?_
        rintro e w9 ⟨rfl, hu9⟩
        have HW9 := Lib.hid (HW5.out.step hu9)
        clear hu9 q0 q1
        go_wp2_with fail
        go_roundw
        case rel => exact ⟨k + 1, _, _, _, _, _, _, by omega, by go_num, HV5.out, HW9.out⟩
        case measure => simp [intOf]; omega
      · have HU := Lib.hid HW.out.upd
        go_wp2_with fail
        refine (wakes20_true _).mono ?_
        rintro e w' ⟨rfl, hu⟩
        have HU2 := Lib.hid (HU.out.trans hu (fun _ _ h => h))
        clear hu
        go_wp2_with fail
        go_ret
        exact ⟨rfl, HU2.out.below⟩

end Go.Proofs.Ytbnmildjamjjmaa
