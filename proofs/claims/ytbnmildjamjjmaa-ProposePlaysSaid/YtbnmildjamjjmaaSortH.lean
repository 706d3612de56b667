/-
  The library's sort of uint64: pdqsortOrdered sorts; slices.Sort sorts up to 100000 numbers. Conditions: at most 100000 numbers.
-/
import Derived.Test.YtbnmildjamjjmaaSortB
import Derived.Test.YtbnmildjamjjmaaSortD
import Derived.Test.YtbnmildjamjjmaaSortF
import Derived.Test.YtbnmildjamjjmaaSortG
namespace Go.Proofs.Ytbnmildjamjjmaa
open Go.RowKit
open Go.Sort (swp ltInt size_swp PermIn SortedIn)

/-- What is still to be done: a sorted permutation of the part makes one of the whole. -/
def ToDo (a b : Nat) (d : Array Int) (a1 b1 : Nat) (dk : Array Int) : Prop :=
  ∀ R : Array Int, PermIn a1 b1 dk R → SortedIn ltInt a1 b1 R → PermIn a b d R ∧ SortedIn ltInt a b R
theorem todo_perm {a b : Nat} {d : Array Int} {a1 b1 : Nat} {dk d1 : Array Int} (h : ToDo a b d a1 b1 dk) (hp : PermIn a1 b1 dk d1) : ToDo a b d a1 b1 d1 :=
  fun R hR hs => h R (Go.Sort.permIn_trans _ _ _ _ _ hp hR) hs

/-- One round's state. -/
structure Pd (w0 wr : World) (g off : Nat) (ty : TypeId) (N n a b : Nat) (d : Array Int) (a1 b1 : Nat) (dk : Array Int) : Prop where
  row : Ar w0 wr g off ty N dk
  size : dk.size = n
  below : Sort.Below ltInt a1 b1 dk
  todo : ToDo a b d a1 b1 dk
theorem Pd.step {w0 wr w1 : World} {g off : Nat} {ty : TypeId} {N n a b : Nat} {d : Array Int} {a1 b1 : Nat} {dk d1 : Array Int} (h : Pd w0 wr g off ty N n a b d a1 b1 dk) (hb : b1 ≤ n) (hp : PermIn a1 b1 dk d1) (hA : Ar w0 w1 g off ty N d1) : Pd w0 w1 g off ty N n a b d a1 b1 d1 :=
  ⟨hA, hp.1.trans h.size, h.below.perm (by rw [h.size]; exact hb) hp, todo_perm h.todo hp⟩

set_option maxRecDepth 100000 in
set_option maxHeartbeats 16000000 in
theorem pdq_any (m : Nat) : ∀ {w0 w : World} {g off : Nat} {ty : TypeId} {N : Nat} {d : Array Int} (_h : Ar w0 w g off ty N d) (cap a b : Nat) (l : Int) (_hm : b - a ≤ m) (_hab : a ≤ b) (_hb : b ≤ d.size) (_hsz : d.size ≤ 100000) (_l0 : 0 ≤ l) (_l1 : l ≤ 100) (_hB : Sort.Below ltInt a b d),
    Calls Try.prog 41 #[.slice (some ⟨g, off, none⟩) d.size cap, .int .i64 a, .int .i64 b, .int .i64 l] w fun e w' => e = .returned (.tuple #[]) ∧ ∃ d', PermIn a b d d' ∧ SortedIn ltInt a b d' ∧ Ar w0 w' g off ty N d' := by
  induction m using Nat.strongRecOn with
  | _ m ih =>
    intro w0 w g off ty N d h cap a b l hm hab hb hsz l0 l1 hB
    obtain ⟨n, hn⟩ : ∃ n, d.size = n := ⟨_, rfl⟩
    have HP : Hid (Pd w0 w g off ty N n a b d a b d) := ⟨h, hn, hB, fun R h1 h2 => ⟨h1, h2⟩⟩
    rw [hn] at hb hsz ⊢
    clear h hB hn
    go_enter Try.func41, Try.ntmps41
    go_wp2_with fail
    go_loopw [1, 2, 3, 8, 9] (fun va vb vl v8 v9 wr => ∃ (a1 b1 : Nat) (l : Int) (wb wp : Bool) (dk : Array Int), va = .int .i64 a1 ∧ vb = .int .i64 b1 ∧ vl = .int .i64 l ∧ v8 = .bool wb ∧ v9 = .bool wp ∧ a1 ≤ b1 ∧ b1 ≤ n ∧ b1 - a1 ≤ m ∧ 0 ≤ l ∧ l ≤ 100 ∧ Pd w0 wr g off ty N n a b d a1 b1 dk) (fun va vb _ _ _ _ => (intOf vb).toNat - (intOf va).toNat)
    case atStart => exact ⟨a, b, l, true, true, d, rfl, rfl, rfl, rfl, rfl, hab, hb, hm, l0, l1, HP.out⟩
    case round =>
      obtain ⟨a1, b1, l, wb, wp, dk, rfl, rfl, rfl, rfl, rfl, hab1, hbn, hm1, l0, l1, hP⟩ := hrel
      have HP1 := Lib.hid hP
      have hai : (a1 : Int) ≤ 100000 := by omega
      have hbi : (b1 : Int) ≤ 100000 := by omega
      have habi : (a1 : Int) ≤ (b1 : Int) := by omega
      clear hP
      by_cases h12 : b1 - a1 ≤ 12
      · have h12i : (b1 : Int) - (a1 : Int) ≤ 12 := by omega
        have HI := Lib.hid (HP1.out.size ▸ ins_any HP1.out.row cap a1 b1 hab1 (by rw [HP1.out.size]; exact hbn) (by rw [HP1.out.size]; exact hsz))
        go_wp2_with fail
        refine HI.out.mono ?_
        rintro e w' ⟨rfl, hA⟩
        have HA := Lib.hid hA
        clear hA
        go_wp2_with fail
        refine bodyPost_ret (results_none rfl _ _ _) rfl ?_
        obtain ⟨q1, q2⟩ := Go.Sort.insertionSort_holds Go.Sort.swo_ltInt dk a1 b1 hab1 (by rw [HP1.out.size]; exact hbn)
        obtain ⟨r1, r2⟩ := HP1.out.todo _ q1 q2
        exact ⟨rfl, _, r1, r2, HA.out⟩
      · have h12i : ¬ (b1 : Int) - (a1 : Int) ≤ 12 := by omega
        have hlt : a1 < b1 := by omega
        by_cases hz : l = 0
        · subst hz
          have HI := Lib.hid (HP1.out.size ▸ heap_any HP1.out.row cap a1 b1 hlt (by rw [HP1.out.size]; exact hbn) (by rw [HP1.out.size]; exact hsz))
          go_wp2_with fail
          refine HI.out.mono ?_
          rintro e w' ⟨rfl, hA⟩
          have HA := Lib.hid hA
          clear hA
          go_wp2_with fail
          refine bodyPost_ret (results_none rfl _ _ _) rfl ?_
          obtain ⟨q1, q2⟩ := Go.Sort.heapSort_holds Go.Sort.swo_ltInt dk a1 b1 hab1 (by rw [HP1.out.size]; exact hbn)
          obtain ⟨r1, r2⟩ := HP1.out.todo _ q1 q2
          exact ⟨rfl, _, r1, r2, HA.out⟩
        · have hzb : (l == 0) = false := beq_eq_false_iff_ne.2 hz
          go_upto_if 35 with (fail)
          have hgap : a1 + 12 < b1 := by omega
          go_cut [3] (fun v wx => ∃ (l2 : Int) (d1 : Array Int), v = .int .i64 l2 ∧ 0 ≤ l2 ∧ l2 ≤ 100 ∧ Pd w0 wx g off ty N n a b d a1 b1 d1)
          case first =>
            cases wb
            · have HI := Lib.hid (HP1.out.size ▸ break_any HP1.out.row cap a1 b1 hgap (by rw [HP1.out.size]; exact hbn) (by rw [HP1.out.size]; exact hsz))
              go_wp2_with fail
              refine HI.out.mono ?_
              rintro e w2 ⟨rfl, d1, hp1, hA⟩
              have HP2 := Lib.hid (HP1.out.step hbn hp1 hA)
              clear hp1 hA
              go_wp2_with fail
              go_meet
              exact ⟨l - 1, d1, rfl, by omega, by omega, HP2.out⟩
            · go_wp2_with fail
              go_meet
              exact ⟨l, dk, rfl, l0, l1, HP1.out⟩
          case rest =>
            obtain ⟨l2, d1, rfl, l20, l21, hP⟩ := hcut
            have HP2 := Lib.hid hP
            clear hP hz hzb HP1 l0 l1
            obtain ⟨w2, hw2⟩ : ∃ w2, w2 = wc := ⟨_, rfl⟩
            rw [← hw2] at HP2 ⊢
            clear hw2
            have HI := Lib.hid (HP2.out.size ▸ pivot_any HP2.out.row cap a1 b1 hgap (by rw [HP2.out.size]; exact hbn) (by rw [HP2.out.size]; exact hsz))
            go_wp2_with fail
            refine HI.out.mono ?_
            rintro e w3 ⟨x, hint, rfl, hx1, hx2, hA⟩
            have HP3 : Hid (Pd w0 w3 g off ty N n a b d a1 b1 d1) := HP2.out.step hbn (Go.Sort.permIn_refl _ _ _) hA
            clear hA HI HP2
            have hxi : (x : Int) ≤ 100000 := by omega
            go_upto_if 50 with (fail)
            go_cut [11, 12] (fun vp vh wx => ∃ (y : Nat) (hh : Int) (d2 : Array Int), vp = .int .i64 y ∧ vh = .int .i64 hh ∧ a1 ≤ y ∧ y < b1 ∧ Pd w0 wx g off ty N n a b d a1 b1 d2)
            case first =>
              by_cases h2 : hint = 2
              · subst h2
                have HI := Lib.hid (HP3.out.size ▸ rev_any HP3.out.row cap a1 b1 hlt (by rw [HP3.out.size]; exact hbn) (by rw [HP3.out.size]; exact hsz))
                go_wp2_with fail
                refine HI.out.mono ?_
                rintro e w4 ⟨rfl, hA⟩
                have HP4 := Lib.hid (HP3.out.step hbn (Go.Sort.reverseRange_holds d1 a1 b1 hab1 (by rw [HP3.out.size]; exact hbn)) hA)
                clear hA
                go_wp2_with fail
                go_meet
                exact ⟨b1 - 1 - (x - a1), 1, _, by congr 1; omega, rfl, by omega, by omega, HP4.out⟩
              · have h2b : (hint == 2) = false := beq_eq_false_iff_ne.2 h2
                go_wp2_with fail
                go_meet
                exact ⟨x, hint, d1, rfl, rfl, hx1, hx2, HP3.out⟩
            case rest =>
              obtain ⟨y, hh, d2, rfl, rfl, hy1, hy2, hP⟩ := hcut
              have HP4 := Lib.hid hP
              clear hP HP3 hx1 hx2 hxi
              obtain ⟨w4, hw4⟩ : ∃ w4, w4 = wc := ⟨_, rfl⟩
              rw [← hw4] at HP4 ⊢
              clear hw4
              have hyi : (y : Int) ≤ 100000 := by omega
              go_upto_region 15 with fail
              go_cut [68] (fun v wx => (∃ c : Bool, v = .bool c) ∧ wx = w4)
              case first =>
                cases wb <;> cases wp
                all_goals (go_wp2_with fail; go_meet; exact ⟨⟨_, rfl⟩, rfl⟩)
              case rest =>
                obtain ⟨⟨cb, rfl⟩, rfl⟩ := hcut
                go_upto_if 68 with (fail)
                go_cut [] (fun wx => ∃ d3, Pd w0 wx g off ty N n a b d a1 b1 d3)
                case first =>
                  cases cb
                  · go_wp2_with fail
                    go_meet
                    exact ⟨d2, HP4.out⟩
                  · have HI := Lib.hid (HP4.out.size ▸ partial_any HP4.out.row cap a1 b1 hlt (by rw [HP4.out.size]; exact hbn) (by rw [HP4.out.size]; exact hsz))
                    obtain ⟨q1, q2⟩ := Go.Sort.partialInsertionSort_holds Go.Sort.swo_ltInt d2 a1 b1 hlt (by rw [HP4.out.size]; exact hbn) HP4.out.below
                    have Q1 := Lib.hid q1
                    have Q2 := Lib.hid q2
                    clear q1 q2
                    obtain ⟨r, hr⟩ : ∃ r, (Sort.partialInsertionSort ltInt d2 a1 b1).2 = r := ⟨_, rfl⟩
                    rw [hr] at HI Q2
                    clear hr
                    go_wp2_with fail
                    refine HI.out.mono ?_
                    rintro e w5 ⟨rfl, hA⟩
                    have HA := Lib.hid hA
                    clear hA
                    cases r
                    · go_wp2_with fail
                      go_meet
                      exact ⟨_, HP4.out.step hbn Q1.out HA.out⟩
                    · go_wp2_with fail
                      refine bodyPost_ret (results_none rfl _ _ _) rfl ?_
                      obtain ⟨r1, r2⟩ := HP4.out.todo _ Q1.out (Q2.out (by trivial))
                      exact ⟨rfl, _, r1, r2, HA.out⟩
                case rest =>
                  obtain ⟨d3, hP⟩ := hcut
                  have HP5 := Lib.hid hP
                  clear hP HP4
                  obtain ⟨w5, hw5⟩ : ∃ w5, w5 = wc := ⟨_, rfl⟩
                  rw [← hw5] at HP5 ⊢
                  clear hw5
                  obtain ⟨G, hG⟩ : ∃ G : Nat → Int, ∀ t, G t = d3[t]! := ⟨fun t => d3[t]!, fun _ => rfl⟩
                  have hcw : ∀ t, t < n → w5.cell? ⟨g, off + t, none⟩ = some (.int .u64 (G t)) := fun t ht => by rw [hG]; exact HP5.out.row.cells t (by rw [HP5.out.size]; exact ht)
                  have HG := Lib.hid hG
                  clear hG
                  obtain ⟨t, ht⟩ : ∃ t : Bool, (decide (0 < a1) && !ltInt (G (a1 - 1)) (G y)) = t := ⟨_, rfl⟩
                  have HT := Lib.hid ht
                  clear ht
                  have hyn : y < n := by omega
                  have han : a1 - 1 < n := by omega
                  go_upto_region 17 with fail
                  go_cut [87] (fun v wx => v = .bool t ∧ Pd w0 wx g off ty N n a b d a1 b1 d3)
                  case first =>
                    have ht := HT.out
                    by_cases hij : 0 < a1
                    · have hd : decide (0 < a1) = true := decide_eq_true hij
                      rw [hd, Bool.true_and] at ht
                      have HT2 := Lib.hid ht
                      have ha1 : 1 ≤ (a1 : Int) := by omega
                      clear ht
                      go_quiet (first | (go_at_call 49; refine Calls.quiet_of_same (less_u _ _ _)))
                      go_wp2_with fail
                      go_meet
                      exact ⟨by rw [HT2.out], HP5.out.step hbn (Go.Sort.permIn_refl _ _ _) (HP5.out.row.drewN _)⟩
                    · have hd : decide (0 < a1) = false := decide_eq_false hij
                      rw [hd, Bool.false_and] at ht
                      have HT2 := Lib.hid ht
                      clear ht
                      go_quiet (first | (go_at_call 49; refine Calls.quiet_of_same (less_u _ _ _)))
                      go_wp2_with fail
                      go_meet
                      exact ⟨by rw [← HT2.out], HP5.out.step hbn (Go.Sort.permIn_refl _ _ _) (HP5.out.row.drewN _)⟩
                  case rest =>
                    obtain ⟨rfl, hP⟩ := hcut
                    have HP6 := Lib.hid hP
                    clear hP hcw
                    cases t
                    · obtain ⟨mid, ap, d4, hpt⟩ : ∃ mid ap d4, Sort.partition ltInt d3 a1 b1 y = (mid, ap, d4) := ⟨_, _, _, rfl⟩
                      have hrp := Go.Sort.round_part Go.Sort.swo_ltInt (Go.Sort.partition_holds ltInt) hy1 hy2 (by rw [HP6.out.size]; exact hbn) HP6.out.below hpt
                      obtain ⟨h1, h2, h3, h4, h5, h6, h7⟩ := hrp
                      have HI := part_any HP6.out.row cap a1 b1 y hy1 hy2 (by rw [HP6.out.size]; exact hbn) (by rw [HP6.out.size]; exact hsz)
                      rw [hpt, HP6.out.size] at HI
                      have HI := Lib.hid HI
                      have H4 := Lib.hid h4
                      have H5 := Lib.hid h5
                      have H6 := Lib.hid h6
                      have H7 := Lib.hid h7
                      have HZ4 : Hid (d4.size = n) := h3.trans HP6.out.size
                      have hmi : (mid : Int) ≤ 100000 := by omega
                      clear HT h3 h4 h5 h6 h7 hpt
                      go_wp2_with fail
                      refine HI.out.mono ?_
                      rintro e w7 ⟨rfl, hA7⟩
                      have HA7 := Lib.hid hA7
                      clear hA7
                      by_cases hlr : mid - a1 < b1 - mid
                      · have hlri : (mid : Int) - (a1 : Int) < (b1 : Int) - (mid : Int) := by omega
                        have HR := ih (mid - a1) (by omega) HA7.out cap a1 mid l2 (Nat.le_refl _) h1 (by rw [HZ4.out]; omega) (by rw [HZ4.out]; exact hsz) l20 l21 H4.out
                        rw [HZ4.out] at HR
                        have HR := Lib.hid HR
                        go_wp2_with fail
                        refine HR.out.mono ?_
                        rintro e w8 ⟨rfl, L, hp, hs, hA⟩
                        obtain ⟨hBL, hC⟩ := H6.out L hp hs
                        have HP8 : Hid (Pd w0 w8 g off ty N n a b d (mid + 1) b1 L) := ⟨hA, hp.1.trans HZ4.out, hBL, fun R h1 h2 => by
                          obtain ⟨q1, q2⟩ := hC R h1 h2
                          exact HP6.out.todo R q1 q2⟩
                        clear hp hs hA hBL hC
                        go_wp2_with fail
                        go_roundw
                        case rel => exact ⟨mid + 1, b1, l2, _, _, L, by go_num, rfl, rfl, rfl, rfl, by omega, hbn, by omega, l20, l21, HP8.out⟩
                        case measure => simp [intOf]; omega
                      · have hlri : ¬ (mid : Int) - (a1 : Int) < (b1 : Int) - (mid : Int) := by omega
                        have HR := ih (b1 - (mid + 1)) (by omega) HA7.out cap (mid + 1) b1 l2 (Nat.le_refl _) (by omega) (by rw [HZ4.out]; omega) (by rw [HZ4.out]; exact hsz) l20 l21 H5.out
                        rw [HZ4.out, show ((mid + 1 : Nat) : Int) = (mid : Int) + 1 from by omega] at HR
                        have HR := Lib.hid HR
                        go_wp2_with fail
                        refine HR.out.mono ?_
                        rintro e w8 ⟨rfl, L, hp, hs, hA⟩
                        obtain ⟨hBL, hC⟩ := H7.out L hp hs
                        have HP8 : Hid (Pd w0 w8 g off ty N n a b d a1 mid L) := ⟨hA, hp.1.trans HZ4.out, hBL, fun R h1 h2 => by
                          obtain ⟨q1, q2⟩ := hC R h1 h2
                          exact HP6.out.todo R q1 q2⟩
                        clear hp hs hA hBL hC
                        go_wp2_with fail
                        go_roundw
                        case rel => exact ⟨a1, mid, l2, _, _, L, rfl, rfl, rfl, rfl, rfl, h1, by omega, by omega, l20, l21, HP8.out⟩
                        case measure => simp [intOf]; omega
                    · have ht := HT.out
                      rw [Bool.and_eq_true] at ht
                      have hap : 0 < a1 := of_decide_eq_true ht.1
                      have hnl : ltInt d3[a1 - 1]! d3[y]! = false := by have := ht.2; rw [HG.out, HG.out] at this; simpa using this
                      obtain ⟨mid, d4, hpe⟩ : ∃ mid d4, Sort.partitionEqual ltInt d3 a1 b1 y = (mid, d4) := ⟨_, _, rfl⟩
                      have hrp := Go.Sort.round_eq Go.Sort.swo_ltInt (Go.Sort.partitionEqual_holds ltInt) hap hy1 hy2 (by rw [HP6.out.size]; exact hbn) HP6.out.below hnl hpe
                      obtain ⟨h1, h2, h3, h4, h5⟩ := hrp
                      have HI := partEq_any HP6.out.row cap a1 b1 y hy1 hy2 (by rw [HP6.out.size]; exact hbn) (by rw [HP6.out.size]; exact hsz)
                      rw [hpe, HP6.out.size] at HI
                      have HI := Lib.hid HI
                      have H4 := Lib.hid h4
                      have H5 := Lib.hid h5
                      have HZ4 : Hid (d4.size = n) := h3.trans HP6.out.size
                      clear HT ht hnl h3 h4 h5 hpe
                      go_wp2_with fail
                      refine HI.out.mono ?_
                      rintro e w7 ⟨rfl, hA7⟩
                      have HP8 : Hid (Pd w0 w7 g off ty N n a b d mid b1 d4) := ⟨hA7, HZ4.out, H4.out, fun R q1 q2 => by
                        obtain ⟨r1, r2⟩ := H5.out R q1 q2
                        exact HP6.out.todo R r1 r2⟩
                      clear hA7
                      go_wp2_with fail
                      go_roundw
                      case rel => exact ⟨mid, b1, l2, _, _, d4, rfl, rfl, rfl, rfl, rfl, h2, hbn, by omega, l20, l21, HP8.out⟩
                      case measure => simp [intOf]; omega

end Go.Proofs.Ytbnmildjamjjmaa
