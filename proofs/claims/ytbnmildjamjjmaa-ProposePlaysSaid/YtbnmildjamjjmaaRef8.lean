/-
  The references of layers 8 and 15, the calls on sets: List, Has, Set, Pick, Major, Directory (for a seat that holds no chain). Conditions: a set is a byte.
-/
import Derived.Test.YtbnmildjamjjmaaPropE
import Derived.Test.YtbnmildjamjjmaaSetP
namespace Go.Proofs.Ytbnmildjamjjmaa
open Go.RowKit

def dirB (s : Int) : Bool := decide (0 < s ∧ s < 128)
theorem infoU8 : (Try.prog.info? 5).map (fun i => (i.zero, i.size, i.bytes)) = some (some (.int .u8 0), 1, 1) := by kernel_rfl
theorem own_shape {w : World} {e : TypeId} {size : Nat} {v : Value} {n : Nat} {xs : List Value} (h : w.ownsRow 0 e size v n xs) : ∃ A c, v = .slice A n c ∧ n ≤ c ∧ c ≤ maxLen := row_shape h

theorem rdir_any (s : Int) (w : World) : Calls Try.prog 24 #[.int .u8 s] w fun e w' => e = .returned (.bool (dirB s)) ∧ w = w' := by
  by_cases h1 : s < 128
  · have e1 : dirB s = decide (0 < s) := by unfold dirB; rw [decide_eq_decide]; omega
    rw [e1]
    go_enter Try.func24, Try.ntmps24
    go_wp2
    go_ret
    exact ⟨rfl, rfl⟩
  · have e1 : dirB s = false := by unfold dirB; exact decide_eq_false (by omega)
    rw [e1]
    have h2 : decide (s < 128) = false := decide_eq_false h1
    go_enter Try.func24, Try.ntmps24
    go_wp2
    go_ret
    exact ⟨rfl, rfl⟩

/-- The nodes below k of a set. -/
def listK (s : Int) : Nat → List Int
  | 0 => []
  | k + 1 => listK s k ++ if s / 2 ^ k % 2 = 1 then [(k : Int)] else []
theorem listK_len (s : Int) : ∀ k, (listK s k).length ≤ k
  | 0 => by simp [listK]
  | k + 1 => by
    have := listK_len s k
    simp only [listK, List.length_append]
    split <;> simp <;> omega
theorem div_pow_succ (s : Int) (k : Nat) (_h : 0 ≤ s) : s / 2 ^ k / 2 = s / 2 ^ (k + 1) := by
  rw [Int.ediv_ediv_of_nonneg (Int.pow_nonneg (by omega)), Int.pow_succ]

set_option maxRecDepth 100000 in
set_option maxHeartbeats 2000000 in
theorem r8list_any (s : Int) (w : World) (h0 : 0 ≤ s) (h1 : s ≤ 255) :
    Calls Try.prog 25 #[.int .u8 s] w fun e w' => ∃ v, e = .returned v ∧ w'.ownsRow 0 5 1 v (listK s 7).length ((listK s 7).map (Value.int .u8)) ∧ Upd (fun _ => False) w w' ∧ (∀ g, v.ownBlock = some g → w.heap.size ≤ g) := by
  obtain ⟨i0, hi0, hz0, hz1, hz2⟩ := info_parts infoU8
  go_enter Try.func25, Try.ntmps25
  go_wp2_with fail
  go_loopw [0, 3, 4] (fun t v i wr => ∃ (k : Nat) (tt : Int), k ≤ 7 ∧ i = .int .i64 k ∧ t = .int .u8 tt ∧ tt = s / 2 ^ k ∧ 0 ≤ tt ∧ tt ≤ 255 ∧ wr.ownsRow 0 5 1 v (listK s k).length ((listK s k).map (Value.int .u8)) ∧ Upd (fun _ => False) w wr ∧ (∀ g, v.ownBlock = some g → w.heap.size ≤ g)) (fun _ _ i _ => 7 - (intOf i).toNat)
  case atStart => exact ⟨0, s, by omega, rfl, rfl, by simp, h0, h1, World.ownsRow_nil _ _ _ _, Upd.refl _ _, fun g hg => by simp [Value.ownBlock] at hg⟩
  case round =>
    obtain ⟨k, tt, hk, rfl, rfl, htt, t0, t1, hown, hu, hv⟩ := hrel
    obtain ⟨A, c, rfl, hn, hc⟩ := own_shape hown
    have hlen := listK_len s k
    have HO := Lib.hid hown
    have HU := Lib.hid hu
    have HV := Lib.hid hv
    have HT := Lib.hid htt
    clear hown hu hv htt
    generalize hLk : listK s k = Lk at *
    have HLK := Lib.hid hLk
    clear hLk
    by_cases hlt : k < 7
    · have hnx : Hid (tt / 2 = s / 2 ^ (k + 1)) := by show tt / 2 = _; rw [HT.out]; exact div_pow_succ s k h0
      by_cases hb : tt % 2 = 1
      · have hs : Hid (listK s (k + 1) = Lk ++ [(k : Int)]) := by show _ = _; simp only [listK]; rw [HLK.out, ← HT.out, if_pos hb]
        have hb' : (tt % 2 == 1) = true := beq_iff_eq.2 hb
        clear hb
        go_wp2_with (first
          | (at_builtin
             go_must (refine wpList_append_sl _ rfl (.tmp 12) (.tmp 15) _ rfl 5 i0 (.int .u8 0) 1 1 Try.underlying51 hi0 hz0 hz1 hz2 rfl (by omega) (.slice A Lk.length c) Lk.length (Lk.map (Value.int .u8)) rfl (HO.out.alloc _) _ _ 1 [.int .u8 (k : Int)] rfl (Sl.one _ _ _) (by simp [Value.oneCell']) (by simp only [maxLen]; omega) (by omega) ?_)
             intro v1 w1 hown1 hg1 hat1))
        go_roundw
        case rel =>
          refine ⟨k + 1, tt / 2, by omega, by go_num, rfl, hnx.out, by omega, by omega, ?_, ?_, ?_⟩
          · rw [hs.out]; simpa using hown1
          · exact (HU.out.alloc _).grown hg1 (fun q hq => .inr (HV.out q hq))
          · intro q hq
            rcases hat1 with h | h
            · rw [h] at hq; exact HV.out q hq
            · rw [h] at hq
              have := HU.out.size
              simp at hq
              omega
        case measure => simp [intOf]; omega
      · have hs : Hid (listK s (k + 1) = Lk) := by show _ = _; simp only [listK]; rw [HLK.out, ← HT.out, if_neg hb, List.append_nil]
        have hb' : (tt % 2 == 1) = false := beq_eq_false_iff_ne.2 hb
        clear hb
        go_wp2_with fail
        go_roundw
        case rel => exact ⟨k + 1, tt / 2, by omega, by go_num, rfl, hnx.out, by omega, by omega, by rw [hs.out]; exact HO.out, HU.out, HV.out⟩
        case measure => simp [intOf]; omega
    · have hk7 : k = 7 := by omega
      subst hk7
      go_wp2_with fail
      go_ret
      exact ⟨_, rfl, by rw [HLK.out]; exact HO.out, HU.out, HV.out⟩

set_option maxHeartbeats 2000000 in
theorem r8has_any (v : Value) (m : Nat) (l : List Int) (x : Int) (w : World) (G : Nat → Prop) (hs : Sl w G 1 v m (l.map (Value.int .u8))) (hl : m ≤ 1000000) :
    Calls Try.prog 28 #[v, .int .u8 x] w fun e w' => e = .returned (.bool (decide (x ∈ l))) ∧ w = w' := by
  have hlm : l.length = m := by simpa using hs.1
  obtain ⟨A, c, rfl, hnc, hcm⟩ := hs.shape
  have HS := Lib.hid hs
  have HL := Lib.hid hlm
  have hl' : (m : Int) ≤ 1000000 := by omega
  unfold maxLen at hcm
  clear hs hlm
  go_enter Try.func28, Try.ntmps28
  go_wp2_with fail
  go_loop [5] (fun i => ∃ k : Nat, k ≤ m ∧ i = .int .i64 k ∧ x ∉ l.take k) (fun i => m - (intOf i).toNat)
  case atStart => exact ⟨0, Nat.zero_le _, rfl, by simp⟩
  case round =>
    obtain ⟨k, hk, rfl, hno⟩ := hrel
    by_cases hlt : k < m
    · have hkl : k < l.length := by rw [HL.out]; exact hlt
      obtain ⟨b, o, c', e, _, _, hcell⟩ := HS.out.at_ hlt
      simp only [Value.slice.injEq, true_and] at e
      obtain ⟨rfl, rfl⟩ := e
      rw [List.getElem?_map, List.getElem?_eq_getElem hkl, Option.map_some] at hcell
      have hk' : (k : Int) < (m : Int) := by omega
      by_cases he : l[k] = x
      · have hin : Hid (x ∈ l) := by show _ ∈ _; rw [← he]; exact List.getElem_mem hkl
        have he' : (l[k] == x) = true := beq_iff_eq.2 he
        generalize l[k] = y at *
        clear he hno
        go_wp2_with fail
        go_ret
        exact ⟨ret_bool (decide_eq_true hin.out).symm, rfl⟩
      · have hno' : Hid (x ∉ l.take (k + 1)) := by
          show _ ∉ _
          rw [List.take_succ_eq_append_getElem hkl, List.mem_append]
          simp only [List.mem_singleton]
          rintro (h | h)
          · exact hno h
          · exact he h.symm
        have he' : (l[k] == x) = false := beq_eq_false_iff_ne.2 he
        generalize l[k] = y at *
        clear he hno
        go_wp2_with fail
        go_round
        case rel => exact ⟨k + 1, by omega, by go_num, hno'.out⟩
        case measure => simp [intOf]; omega
    · have hkm : k = m := by omega
      subst hkm
      rw [List.take_of_length_le (by rw [HL.out]; exact Nat.le_refl _)] at hno
      have HNO := Lib.hid hno
      clear hno
      go_wp2_with fail
      go_ret
      exact ⟨ret_bool (decide_eq_false HNO.out).symm, rfl⟩

/-- The number of the nodes below k of a list. -/
def setK (l : List Int) : Nat → Int
  | 0 => 0
  | k + 1 => setK l k + if (k : Int) ∈ l then 2 ^ k else 0
theorem setK_bd (l : List Int) : ∀ k, 0 ≤ setK l k ∧ setK l k ≤ 2 ^ k - 1
  | 0 => by simp [setK]
  | k + 1 => by
    have := setK_bd l k
    have hp : (2 : Int) ^ (k + 1) = 2 ^ k + 2 ^ k := by rw [Int.pow_succ]; omega
    have hpos : (0 : Int) < 2 ^ k := Int.pow_pos (by omega)
    simp only [setK]
    split <;> omega

theorem pow7 : ∀ k : Fin 7, (2 : Int) ^ k.val ≤ 64 := by decide

set_option maxHeartbeats 2000000 in
theorem r8set_any (v : Value) (m : Nat) (l : List Int) (w : World) (G : Nat → Prop) (hs : Sl w G 1 v m (l.map (Value.int .u8))) (hl : m ≤ 1000000) :
    Calls Try.prog 30 #[v] w fun e w' => e = .returned (.int .u8 (setK l 7)) ∧ w = w' := by
  obtain ⟨A, c, rfl, hnc, hcm⟩ := hs.shape
  have HH := Lib.hid (fun x => r8has_any (.slice A m c) m l x w G hs hl)
  clear hs hcm hnc
  go_enter Try.func30, Try.ntmps30
  go_wp2_with fail
  go_loop [3, 4, 5] (fun s z i => ∃ (k : Nat) (ss zz : Int), k ≤ 7 ∧ i = .int .i64 k ∧ s = .int .i64 ss ∧ z = .int .i64 zz ∧ ss = setK l k ∧ zz = 2 ^ k ∧ 0 ≤ ss ∧ ss ≤ zz - 1 ∧ zz ≤ 128) (fun _ _ i => 7 - (intOf i).toNat)
  case atStart => exact ⟨0, 0, 1, by omega, rfl, rfl, rfl, rfl, by simp, by omega, by omega, by omega⟩
  case round =>
    obtain ⟨k, ss, zz, hk, rfl, rfl, rfl, hss, hzz, s0, s1, z1⟩ := hrel
    have HSS := Lib.hid hss
    have HZZ := Lib.hid hzz
    by_cases hlt : k < 7
    · have z2 : zz ≤ 64 := by rw [hzz]; exact pow7 ⟨k, hlt⟩
      have e2 : Hid (2 * zz = 2 ^ (k + 1)) := by show _ = _; rw [HZZ.out, Int.pow_succ]; omega
      clear hss hzz
      by_cases hin : (k : Int) ∈ l
      · have e1 : Hid (ss + zz = setK l (k + 1)) := by show _ = _; simp only [setK]; rw [if_pos hin, HSS.out, HZZ.out]
        have HX := Lib.hid (HH.out (k : Int))
        rw [decide_eq_true hin] at HX
        clear hin
        go_wp2_with fail
        refine HX.out.mono ?_
        rintro e w' ⟨rfl, rfl⟩
        go_wp2_with fail
        go_round
        case rel => exact ⟨k + 1, ss + zz, 2 * zz, by omega, by go_num, rfl, rfl, e1.out, e2.out, by omega, by omega, by omega⟩
        case measure => simp [intOf]; omega
      · have e1 : Hid (ss = setK l (k + 1)) := by show _ = _; simp only [setK]; rw [if_neg hin, HSS.out]; omega
        have HX := Lib.hid (HH.out (k : Int))
        rw [decide_eq_false hin] at HX
        clear hin
        go_wp2_with fail
        refine HX.out.mono ?_
        rintro e w' ⟨rfl, rfl⟩
        go_wp2_with fail
        go_round
        case rel => exact ⟨k + 1, ss, 2 * zz, by omega, by go_num, rfl, rfl, e1.out, e2.out, by omega, by omega, by omega⟩
        case measure => simp [intOf]; omega
    · have hk7 : k = 7 := by omega
      subst hk7
      have hzb : zz = 128 := by rw [hzz]; decide
      have z3 : zz ≤ 128 := by omega
      clear hss hzz hzb
      go_wp2_with fail
      go_ret
      exact ⟨ret_int HSS.out, rfl⟩

/-- Nodes of a that b has, or has not. -/
def pickL (a b : List Int) (inn : Bool) : List Int := a.filter fun x => decide (x ∈ b) == inn
theorem pickL_take {a b : List Int} {inn : Bool} {k : Nat} (hk : k < a.length) : pickL (a.take (k + 1)) b inn = pickL (a.take k) b inn ++ if (decide (a[k] ∈ b) == inn) = true then [a[k]] else [] := by
  unfold pickL
  rw [List.take_succ_eq_append_getElem hk, List.filter_append]
  congr 1
  rw [List.filter_cons]
  split <;> simp

set_option maxHeartbeats 2000000 in
theorem r8pick_any (va vb : Value) (ma mb : Nat) (a b : List Int) (inn : Bool) (w : World) (Ga Gb : Nat → Prop) (ha : Sl w Ga 1 va ma (a.map (Value.int .u8))) (hb : Sl w Gb 1 vb mb (b.map (Value.int .u8))) (hga : ∀ g, Ga g → g < w.heap.size) (hgb : ∀ g, Gb g → g < w.heap.size) (la : ma ≤ 1000) (lb : mb ≤ 1000) :
    Calls Try.prog 36 #[va, vb, .bool inn] w fun e w' => ∃ v, e = .returned v ∧ w'.ownsRow 0 5 1 v (pickL a b inn).length ((pickL a b inn).map (Value.int .u8)) ∧ Upd (fun _ => False) w w' ∧ (∀ g, v.ownBlock = some g → w.heap.size ≤ g) := by
  obtain ⟨i0, hi0, hz0, hz1, hz2⟩ := info_parts infoU8
  have hla : a.length = ma := by simpa using ha.1
  obtain ⟨A, c, rfl, hnc, hcm⟩ := ha.shape
  obtain ⟨B, cb, rfl, _, _⟩ := hb.shape
  have HSA := Lib.hid ha
  have HSB := Lib.hid hb
  have HLA := Lib.hid hla
  have HGA := Lib.hid hga
  have HGB := Lib.hid hgb
  have la' : (ma : Int) ≤ 1000 := by omega
  unfold maxLen at hcm
  clear ha hb hla hga hgb hcm hnc
  go_enter Try.func36, Try.ntmps36
  go_wp2_with fail
  go_loopw [7, 8] (fun v i wr => ∃ k : Nat, k ≤ ma ∧ i = .int .i64 k ∧ wr.ownsRow 0 5 1 v (pickL (a.take k) b inn).length ((pickL (a.take k) b inn).map (Value.int .u8)) ∧ Upd (fun _ => False) w wr ∧ (∀ g, v.ownBlock = some g → w.heap.size ≤ g)) (fun _ i _ => ma - (intOf i).toNat)
  case atStart => exact ⟨0, Nat.zero_le _, rfl, World.ownsRow_nil _ _ _ _, Upd.refl _ _, fun g hg => by simp [Value.ownBlock] at hg⟩
  case round =>
    obtain ⟨k, hk, rfl, hown, hu, hv⟩ := hrel
    obtain ⟨A1, c1, rfl, hn, hc⟩ := own_shape hown
    have HO := Lib.hid hown
    have HU := Lib.hid hu
    have HV := Lib.hid hv
    have hpl : (pickL (a.take k) b inn).length ≤ ma := by
      have h1 : (pickL (a.take k) b inn).length ≤ (a.take k).length := List.length_filter_le _ _
      have h2 : (a.take k).length ≤ a.length := by rw [List.length_take]; omega
      have := HLA.out
      omega
    by_cases hlt : k < ma
    · have hkl : k < a.length := by rw [HLA.out]; exact hlt
      obtain ⟨b1, o1, c', e, hGb, hbl, hcell⟩ := HSA.out.at_ hlt
      simp only [Value.slice.injEq, true_and] at e
      obtain ⟨rfl, rfl⟩ := e
      rw [List.getElem?_map, List.getElem?_eq_getElem hkl, Option.map_some] at hcell
      have e1 : wr.cell? ⟨b1, o1 + k, none⟩ = some (.int .u8 a[k]) := (hu.cell (p := ⟨b1, o1 + k, none⟩) (HGA.out b1 hGb) id).trans hcell
      have HT := Lib.hid (pickL_take (b := b) (inn := inn) hkl)
      have HX := Lib.hid (r8has_any (.slice B mb cb) mb b a[k] wr Gb (HSB.out.upd hu (fun _ _ h => h)) (by omega))
      clear hown hu hv hcell
      generalize hLk : pickL (a.take k) b inn = Lk at *
      generalize hxx : a[k] = x at *
      clear hxx hLk
      obtain ⟨t, ht⟩ : ∃ t, decide (x ∈ b) = t := ⟨_, rfl⟩
      rw [ht] at HX HT
      clear ht
      go_wp2_with fail
      refine HX.out.mono ?_
      rintro e w' ⟨rfl, rfl⟩
      cases hti : (t == inn)
      · rw [hti] at HT
        go_wp2_with fail
        go_roundw
        case rel => exact ⟨k + 1, by omega, by go_num, by rw [HT.out]; simpa using HO.out, HU.out, HV.out⟩
        case measure => simp [intOf]; omega
      · rw [hti] at HT
        go_wp2_with (first
          | (at_builtin
             refine wpList_append_sl _ rfl (.tmp 23) (.tmp 28) _ rfl 5 i0 (.int .u8 0) 1 1 Try.underlying51 hi0 hz0 hz1 hz2 rfl (by omega) (.slice A1 Lk.length c1) Lk.length (Lk.map (Value.int .u8)) rfl (HO.out.alloc _) _ _ 1 [.int .u8 x] rfl (Sl.one _ _ _) (by simp [Value.oneCell']) (by simp only [maxLen]; omega) (by omega) ?_
             intro v1 w1 hown1 hg1 hat1))
        go_roundw
        case rel =>
          refine ⟨k + 1, by omega, by go_num, by rw [HT.out]; simpa using hown1, (HU.out.alloc _).grown hg1 (fun q hq => .inr (HV.out q hq)), ?_⟩
          intro q hq
          rcases hat1 with h | h
          · rw [h] at hq; exact HV.out q hq
          · rw [h] at hq
            have := HU.out.size
            simp at hq
            omega
        case measure => simp [intOf]; omega
    · have hkm : k = ma := by omega
      subst hkm
      have ht : a.take k = a := List.take_of_length_le (by rw [HLA.out]; exact Nat.le_refl _)
      rw [ht] at HO HV
      rw [ht] at hpl
      clear hown hu hv
      rw [ht] at hn ⊢
      go_wp2_with fail
      go_ret
      exact ⟨_, rfl, HO.out, HU.out, HV.out⟩

theorem pickL_len (a b : List Int) (inn : Bool) : (pickL a b inn).length ≤ a.length := List.length_filter_le _ _
theorem r8major_any (va vb : Value) (ma mb : Nat) (a b : List Int) (w : World) (Ga Gb : Nat → Prop) (ha : Sl w Ga 1 va ma (a.map (Value.int .u8))) (hb : Sl w Gb 1 vb mb (b.map (Value.int .u8))) (hga : ∀ g, Ga g → g < w.heap.size) (hgb : ∀ g, Gb g → g < w.heap.size) (la : ma ≤ 1000) (lb : mb ≤ 1000) :
    Calls Try.prog 29 #[va, vb] w fun e w' => e = .returned (.bool (decide ((a.length : Int) < 2 * ((pickL a b true).length : Int)))) ∧ Upd (fun _ => False) w w' := by
  have hla : a.length = ma := by simpa using ha.1
  obtain ⟨A, c, rfl, hnc, hcm⟩ := ha.shape
  have HP := Lib.hid (r8pick_any (.slice A ma c) vb ma mb a b true w Ga Gb ha hb hga hgb la lb)
  have hpl := pickL_len a b true
  rw [hla] at hpl ⊢
  clear ha hb hga hgb hcm hnc hla
  obtain ⟨p, hp⟩ : ∃ p, (pickL a b true).length = p := ⟨_, rfl⟩
  rw [hp] at HP hpl ⊢
  clear hp
  go_enter Try.func29, Try.ntmps29
  go_wp2_with fail
  refine HP.out.mono ?_
  rintro e w' ⟨v, rfl, hown, hu, _⟩
  obtain ⟨A1, c1, rfl, _, hc⟩ := own_shape hown
  have HU := Lib.hid hu
  clear hown hu hc HP
  have hp0 : (p : Int) ≤ 1000 := by omega
  go_wp2_with fail
  go_ret
  exact ⟨rfl, HU.out⟩

end Go.Proofs.Ytbnmildjamjjmaa
