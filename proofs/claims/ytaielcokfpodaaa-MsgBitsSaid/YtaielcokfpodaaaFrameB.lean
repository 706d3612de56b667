/-
  Layer 3: frames are taken. Conditions: bytes, at most 10^12 of them.
-/
import Derived.Test.YtaielcokfpodaaaFrameA
namespace Go.Proofs.Ytaielcokfpodaaa
open Go.RowKit

/-- The frame at the beginning: its inside, its length, the error. -/
def pFrame (l : List Int) : List Int × Int × Int :=
  let r := pNum (l, 0)
  if r.2.2 ≠ 0 then ([], 0, r.2.2)
  else if r.1 = 0 ∨ 65536 < r.1 then ([], 0, 4)
  else if r.2.1.length < 8 + r.1.toNat then ([], 0, 3)
  else if sumB ((r.2.1.drop 8).take r.1.toNat) ≠ r.2.1.take 8 then ([], 0, 5)
  else ((r.2.1.drop 8).take r.1.toNat, (l.length : Int) - (r.2.1.length : Int) + 8 + r.1, 0)

theorem suffix_drop {a b l : List Int} (h : l = a ++ b) : l.drop (l.length - b.length) = b := by
  subst h
  rw [List.length_append, Nat.add_sub_cancel]
  exact List.drop_left

theorem strOf_cut (l : List Int) (a b : Nat) : (strOfNums l).extract a b = strOfNums ((l.drop a).take (b - a)) := by
  rw [strOf_extract, List.drop_take]
theorem strOf_inj {a b : List Int} (ha : Byt a) (hb : Byt b) (h : strOfNums a = strOfNums b) : a = b := by
  rw [← nums_strOf' a ha, ← nums_strOf' b hb, h]
theorem strOf_eq {a b : List Int} (ha : Byt a) (hb : Byt b) : ((strOfNums a).toList == (strOfNums b).toList) = decide (a = b) := by
  by_cases h : a = b
  · subst h; simp
  · rw [decide_eq_false h]
    refine beq_eq_false_iff_ne.2 fun h' => h (strOf_inj ha hb ?_)
    rw [strOf_list, strOf_list] at h'
    have e1 : (strOfNums a).data.toList = (strOfNums b).data.toList := h'
    exact ByteArray.ext (Array.toList_inj.1 e1)

set_option maxRecDepth 100000 in
set_option maxHeartbeats 4000000 in
theorem ftake_any (l : List Int) (hb : Byt l) (hl : l.length ≤ 1000000000) (w : World) :
    Calls Try.prog 15 #[.string (strOfNums l)] w fun e w' => e = .returned (.tuple #[.string (strOfNums (pFrame l).1), .int .i64 (pFrame l).2.1, .int .i64 (pFrame l).2.2]) ∧ Upd (fun _ => False) w w' := by
  have HO := Lib.hid (wof_any l w)
  have hok : RdOk (l, 0) := ⟨hb, by show l.length ≤ _; omega⟩
  have HN := Lib.hid (fun (wx : World) (b : Nat) (hx : Rd wx b (l, 0)) => wrnum_any hx hok)
  obtain ⟨n1, n2, n3⟩ := hok.num
  have hsuf := fun (n : Int) (l' : List Int) (h : pNum (l, 0) = (n, (l', 0))) => pNum_ok h hb
  have hz : (strOfNums l).size = l.length := strOfNums_size l
  unfold pFrame
  rcases hr : pNum (l, 0) with ⟨n, l', e'⟩
  rw [hr] at HN n1 n2 n3
  simp only at HN n1 n2 n3 ⊢
  have HE := Lib.hid (fun (wx : World) (b : Nat) (hx : Rd wx b (l', e')) => werr_any hx)
  have HLF := Lib.hid (fun (wx : World) (b : Nat) (hx : Rd wx b (l', e')) => wleft_any hx n1)
  by_cases he : e' ≠ 0
  · rw [if_pos he]
    have he' : (e' != 0) = true := bne_iff_ne.2 he
    clear he hr hsuf
    go_enter Try.func15, Try.ntmps15
    go_wp2_with fail
    refine HO.out.mono ?_
    rintro e w1 ⟨b, rfl, hbw, hu1, hr1⟩
    have HU1 := Lib.hid hu1
    have HR1 := Lib.hid hr1
    clear hu1 hr1
    go_wp2_with fail
    refine (HN.out _ _ HR1.out).mono ?_
    rintro e w2 ⟨rfl, hto⟩
    have HU2 := Lib.hid (HU1.out.trans hto.1 (fun i hi h => by omega))
    have HR2 := Lib.hid hto.2
    clear hto
    go_wp2_with fail
    refine (HE.out _ _ HR2.out).mono ?_
    rintro e w3 ⟨rfl, rfl⟩
    go_wp2_with fail
    exact bodyPost_ret (v := .tuple #[.string { data := #[] }, .int .i64 0, .int .i64 e']) (by simp [results, Try.results15, go_sem]) rfl ⟨rfl, HU2.out⟩
  obtain rfl : e' = 0 := by omega
  rw [if_neg he]
  have hsf := (hsuf n l' hr).2.2.2
  have hdr := suffix_drop (show l = numE n.toNat ++ l' from hsf)
  have hll : l'.length ≤ l.length := by have := congrArg List.length hsf; rw [List.length_append] at this; simp only at this; omega
  clear he hr hsuf hsf n3
  by_cases hn : n = 0 ∨ 65536 < n
  · rw [if_pos hn]
    clear hdr
    by_cases hn0 : n = 0
    · subst hn0
      clear hn
      go_enter Try.func15, Try.ntmps15
      go_wp2_with fail
      refine HO.out.mono ?_
      rintro e w1 ⟨b, rfl, hbw, hu1, hr1⟩
      have HU1 := Lib.hid hu1
      have HR1 := Lib.hid hr1
      clear hu1 hr1
      go_wp2_with fail
      refine (HN.out _ _ HR1.out).mono ?_
      rintro e w2 ⟨rfl, hto⟩
      have HU2 := Lib.hid (HU1.out.trans hto.1 (fun i hi h => by omega))
      have HR2 := Lib.hid hto.2
      clear hto
      go_wp2_with fail
      refine (HE.out _ _ HR2.out).mono ?_
      rintro e w3 ⟨rfl, rfl⟩
      go_wp2_with fail
      exact bodyPost_ret (v := .tuple #[.string { data := #[] }, .int .i64 0, .int .i64 4]) (by simp [results, Try.results15, go_sem]) rfl ⟨rfl, HU2.out⟩
    · have hn1 : 65536 < n := by omega
      have hn2 : (n == 0) = false := beq_eq_false_iff_ne.2 hn0
      clear hn hn0
      go_enter Try.func15, Try.ntmps15
      go_wp2_with fail
      refine HO.out.mono ?_
      rintro e w1 ⟨b, rfl, hbw, hu1, hr1⟩
      have HU1 := Lib.hid hu1
      have HR1 := Lib.hid hr1
      clear hu1 hr1
      go_wp2_with fail
      refine (HN.out _ _ HR1.out).mono ?_
      rintro e w2 ⟨rfl, hto⟩
      have HU2 := Lib.hid (HU1.out.trans hto.1 (fun i hi h => by omega))
      have HR2 := Lib.hid hto.2
      clear hto
      go_wp2_with fail
      refine (HE.out _ _ HR2.out).mono ?_
      rintro e w3 ⟨rfl, rfl⟩
      go_wp2_with fail
      exact bodyPost_ret (v := .tuple #[.string { data := #[] }, .int .i64 0, .int .i64 4]) (by simp [results, Try.results15, go_sem]) rfl ⟨rfl, HU2.out⟩
  rw [if_neg hn]
  have hn2 : (n == 0) = false := beq_eq_false_iff_ne.2 (by omega)
  have hn3 : decide (65536 < n) = false := decide_eq_false (by omega)
  obtain ⟨m, rfl⟩ : ∃ m : Nat, n = (m : Int) := ⟨n.toNat, by omega⟩
  have hm : m ≤ 65536 := by omega
  rw [Int.toNat_natCast]
  have hcut : (strOfNums l).extract (l.length - l'.length) l.length = strOfNums l' := by rw [strOf_from, hdr]
  have hz2 : (strOfNums l').size = l'.length := strOfNums_size l'
  have hsub : (l.length : Int) - (l'.length : Int) = ((l.length - l'.length : Nat) : Int) := by omega
  clear hn hdr
  by_cases hsh : l'.length < 8 + m
  · rw [if_pos hsh]
    have hsh' : (l'.length : Int) < 8 + (m : Int) := by omega
    clear hsh
    go_enter Try.func15, Try.ntmps15
    go_wp2_with fail
    refine HO.out.mono ?_
    rintro e w1 ⟨b, rfl, hbw, hu1, hr1⟩
    have HU1 := Lib.hid hu1
    have HR1 := Lib.hid hr1
    clear hu1 hr1
    go_wp2_with fail
    refine (HN.out _ _ HR1.out).mono ?_
    rintro e w2 ⟨rfl, hto⟩
    have HU2 := Lib.hid (HU1.out.trans hto.1 (fun i hi h => by omega))
    have HR2 := Lib.hid hto.2
    clear hto
    go_wp2_with fail
    refine (HE.out _ _ HR2.out).mono ?_
    rintro e w3 ⟨rfl, rfl⟩
    go_wp2_with fail
    refine (HLF.out _ _ HR2.out).mono ?_
    rintro e w4 ⟨rfl, rfl⟩
    go_wp2_with fail
    exact bodyPost_ret (v := .tuple #[.string { data := #[] }, .int .i64 0, .int .i64 3]) (by simp [results, Try.results15, go_sem]) rfl ⟨rfl, HU2.out⟩
  rw [if_neg hsh]
  have hsh' : 8 + (m : Int) ≤ (l'.length : Int) := by omega
  have hsh2 : (8 : Int) ≤ (l'.length : Int) := by omega
  have hshb : decide ((l'.length : Int) < 8 + (m : Int)) = false := decide_eq_false (by omega)
  have hin : (strOfNums l').extract 8 (8 + m) = strOfNums ((l'.drop 8).take m) := by rw [strOf_cut]; congr 2; omega
  have hsl : ∀ wx, (Instr.slice 9 (.string (strOfNums l')) (some (.int .i64 8)) (some (.int .i64 (8 + (m : Int)))) none).run Try.prog wx = .ok (.string (strOfNums ((l'.drop 8).take m))) wx := fun wx => by
    have := run_slice_string (P := Try.prog) (w := wx) 9 (strOfNums l') .i64 .i64 8 (8 + (m : Int)) Try.underlying9 (by omega) (by omega) (by omega)
    rw [show (8 : Int).toNat = 8 from rfl, show (8 + (m : Int)).toNat = 8 + m by omega, hin] at this
    exact this
  clear hin
  have hhd : (strOfNums l').extract 0 8 = strOfNums (l'.take 8) := strOf_upto l' 8
  have hbi : Byt ((l'.drop 8).take m) := (n1.1.drop 8).take m
  have HFS := Lib.hid (fun wx => fsum_any ((l'.drop 8).take m) hbi (by rw [List.length_take]; omega) wx)
  have hEQ := strOf_eq (sumB_byt ((l'.drop 8).take m)) (n1.1.take 8)
  generalize (l'.drop 8).take m = ins at *
  by_cases hs : sumB ins ≠ l'.take 8
  · rw [if_pos hs]
    rw [decide_eq_false hs] at hEQ
    have hEQ2 : ((strOfNums (sumB ins)).toList != (strOfNums (l'.take 8)).toList) = true := by rw [bne, hEQ]; rfl
    clear hs hsh
    generalize strOfNums (sumB ins) = ss at *
    generalize strOfNums (l'.take 8) = hd at *
    go_enter Try.func15, Try.ntmps15
    go_wp2_with fail
    refine HO.out.mono ?_
    rintro e w1 ⟨b, rfl, hbw, hu1, hr1⟩
    have HU1 := Lib.hid hu1
    have HR1 := Lib.hid hr1
    clear hu1 hr1
    go_wp2_with fail
    refine (HN.out _ _ HR1.out).mono ?_
    rintro e w2 ⟨rfl, hto⟩
    have HU2 := Lib.hid (HU1.out.trans hto.1 (fun i hi h => by omega))
    have HR2 := Lib.hid hto.2
    clear hto
    go_wp2_with fail
    refine (HE.out _ _ HR2.out).mono ?_
    rintro e w3 ⟨rfl, rfl⟩
    go_wp2_with fail
    refine (HLF.out _ _ HR2.out).mono ?_
    rintro e w4 ⟨rfl, rfl⟩
    go_wp2_with fail
    go_region_with (go_at_call 33; refine (HFS.out _).mono ?_; rintro e w5 ⟨rfl, hu5⟩; have HU5 := Lib.hid ((Upd.refl _ _).drew.trans hu5 (fun _ _ h => h)); clear hu5)
    all_goals
      go_wp2_with fail
      exact bodyPost_ret (v := .tuple #[.string { data := #[] }, .int .i64 0, .int .i64 5]) (by simp [results, Try.results15, go_sem]) rfl ⟨rfl, HU2.out.trans HU5.out (fun _ _ h => h)⟩
  · rw [if_neg hs]
    rw [decide_eq_true (by simpa using hs)] at hEQ
    have hEQ2 : ((strOfNums (sumB ins)).toList != (strOfNums (l'.take 8)).toList) = false := by rw [bne, hEQ]; rfl
    clear hs hsh
    generalize strOfNums (sumB ins) = ss at *
    generalize strOfNums (l'.take 8) = hd at *
    have hres : ((l.length - l'.length : Nat) : Int) + (8 + (m : Int)) = (l.length : Int) - (l'.length : Int) + 8 + (m : Int) := by omega
    have HRES := Lib.hid hres
    clear hres
    go_enter Try.func15, Try.ntmps15
    go_wp2_with fail
    refine HO.out.mono ?_
    rintro e w1 ⟨b, rfl, hbw, hu1, hr1⟩
    have HU1 := Lib.hid hu1
    have HR1 := Lib.hid hr1
    clear hu1 hr1
    go_wp2_with fail
    refine (HN.out _ _ HR1.out).mono ?_
    rintro e w2 ⟨rfl, hto⟩
    have HU2 := Lib.hid (HU1.out.trans hto.1 (fun i hi h => by omega))
    have HR2 := Lib.hid hto.2
    clear hto
    go_wp2_with fail
    refine (HE.out _ _ HR2.out).mono ?_
    rintro e w3 ⟨rfl, rfl⟩
    go_wp2_with fail
    refine (HLF.out _ _ HR2.out).mono ?_
    rintro e w4 ⟨rfl, rfl⟩
    go_wp2_with fail
    go_region_with (go_at_call 33; refine (HFS.out _).mono ?_; rintro e w5 ⟨rfl, hu5⟩; have HU5 := Lib.hid ((Upd.refl _ _).drew.trans hu5 (fun _ _ h => h)); clear hu5)
    all_goals
      go_wp2_with fail
      exact bodyPost_ret (v := .tuple #[.string (strOfNums ins), .int .i64 (((l.length - l'.length : Nat) : Int) + (8 + (m : Int))), .int .i64 0]) (by simp [results, Try.results15, go_sem]) rfl ⟨by rw [HRES.out], HU2.out.trans HU5.out (fun _ _ h => h)⟩
end Go.Proofs.Ytaielcokfpodaaa
