/-
  Layer 18: MsgBits. Conditions: none.
-/
import Derived.Test.YtaielcokfpodaaaLawD18
import Derived.Test.YtaielcokfpodaaaMsgS
namespace Go.Proofs.Ytaielcokfpodaaa
open Go.RowKit

/-- A row of bytes that may be written. -/
def Row8 (w : World) (g : Nat) (l : List Int) : Prop := ∃ (row : Array Value) (fr : Nat × Nat), w.heap[g]? = some (.cells row 5 fr) ∧ l.length ≤ row.size ∧ l.length ≤ fr.1 ∧ ∀ j, j < l.length → row[j]? = (l.map (Value.int .u8))[j]?
theorem Row8.cell {w : World} {g : Nat} {l : List Int} (h : Row8 w g l) {j : Nat} (hj : j < l.length) : w.cell? ⟨g, j, none⟩ = some (.int .u8 l[j]) := by
  obtain ⟨row, fr, h1, h2, h3, h4⟩ := h
  rw [cell_of_row w g j row 5 fr h1, h4 j hj, List.getElem?_map, List.getElem?_eq_getElem hj]
  rfl
theorem Row8.frozen {w : World} {g : Nat} {l : List Int} (h : Row8 w g l) {j : Nat} (hj : j < l.length) : w.frozen? ⟨g, j, none⟩ = false := by
  obtain ⟨row, fr, h1, h2, h3, h4⟩ := h
  simp [World.frozen?, h1]
  omega
theorem Row8.set_ {w : World} {g : Nat} {l : List Int} (h : Row8 w g l) {i : Nat} (hi : i < l.length) (v : Int) : Row8 (w.setCell ⟨g, i, none⟩ (.int .u8 v)) g (l.set i v) := by
  obtain ⟨row, fr, h1, h2, h3, h4⟩ := h
  refine ⟨row.setIfInBounds i (.int .u8 v), fr, by simp [World.setCell, Array.getElem?_modify, h1], by simpa using h2, by simpa using h3, fun j hj => ?_⟩
  rw [List.length_set] at hj
  have := h4 j hj
  rw [List.map_set, List.getElem?_set, Array.getElem?_setIfInBounds]
  by_cases e : i = j
  · subst e
    rw [if_pos rfl, if_pos rfl, if_pos (by omega), if_pos (by simpa using hj)]
  · rw [if_neg e, if_neg e]
    exact this
theorem Row8.sl {w : World} {g c : Nat} {l : List Int} (h : Row8 w g l) (hc : l.length ≤ c) (hm : c ≤ maxLen) : Sl w (fun k => k = g) 1 (.slice (some ⟨g, 0, none⟩) l.length c) l.length (l.map (Value.int .u8)) := by
  obtain ⟨row, fr, h1, h2, h3, h4⟩ := h
  refine ⟨by simp, _, c, rfl, hc, hm, (fun h => by cases h), fun _ => ⟨g, 0, rfl, rfl, (Array.getElem?_eq_some_iff.1 h1).1, fun j u hu => ?_⟩⟩
  have hj : j < l.length := by simpa using (List.getElem?_eq_some_iff.1 hu).1
  rw [Nat.zero_add, cell_of_row w g j row 5 fr h1, h4 j hj]
  exact hu
theorem run_bytes_row (w : World) (l : List Int) (hb : Byt l) (hl : l.length ≤ 1000000) :
    ∃ g c w', (convert 9 23 (.string (strOfNums l))).run Try.prog w = .ok (.slice (some ⟨g, 0, none⟩) l.length c) w' ∧ Upd (fun _ => False) w w' ∧ Row8 w' g l ∧ w.heap.size ≤ g ∧ l.length ≤ c ∧ c ≤ maxLen := by
  have hr := run_bytes_of_string (P := Try.prog) w 9 23 5 (strOfNums l) Try.underlying9 Try.underlying23 Try.underlying5
  have hge := grownCap_ge w (strOfNums l).size 0 5
  have hz : (strOfNums l).size = l.length := strOfNums_size l
  have hcm := grownCap_le_maxLen w (strOfNums l).size 0 5 (by simp only [maxLen]; omega)
  generalize grownCap w (strOfNums l).size 0 5 = c at *
  have hsz : l.length ≤ (bytesRow (strOfNums l) c).size := by
    unfold bytesRow
    rw [Array.size_append, Array.size_map]
    have : (strOfNums l).data.size = l.length := hz
    omega
  refine ⟨w.heap.size, c, _, by rw [← hz]; exact hr, (Upd.refl _ _).drew.alloc _, ⟨_, _, heap_alloc_new w.drew _, hsz, hsz, fun j hj => ?_⟩, Nat.le_refl _, by omega, hcm⟩
  unfold bytesRow
  rw [Array.getElem?_append_left (by rw [Array.size_map]; show j < (strOfNums l).size; omega)]
  have e := nums_strOf' l hb
  conv => rhs; rw [← e]
  simp only [nums, List.getElem?_map, Option.map_map]
  rw [Array.getElem?_map]
  simp only [Array.getElem?_toList]
  rfl

theorem xor_turn : ∀ j : Fin 8, ∀ x : Fin 256, bits .xor .u8 ((x.val : Nat) : Int) ((2 : Int) ^ j.val % 256) ≠ ((x.val : Nat) : Int) := by decide +kernel
theorem xor_ne {x : Int} {j : Nat} (h0 : 0 ≤ x) (h1 : x ≤ 255) (hj : j < 8) : bits .xor .u8 x ((2 : Int) ^ j % 256) ≠ x := by
  have := xor_turn ⟨j, hj⟩ ⟨x.toNat, by omega⟩
  simp only [Int.toNat_of_nonneg h0] at this
  exact this

set_option maxRecDepth 100000 in
set_option maxHeartbeats 16000000 in
theorem msgBits_walk (a0 : Ms) (vv0 vi0 : Value) (tt : Int) (w : World) (h0 : RawM a0) (l0 : Lists w (fun k => k < w.heap.size) a0 vv0 vi0) (ht : (Lit.int .u32 tt).wf = true) :
    Calls Try.prog 5 #[msV a0 vv0 vi0, .int .u32 tt] w fun e w' => e = .returned (.bool true) ∧ Below w.heap.size w w' := by
  have HWK := Lib.hid (fun wx => wakes18_true wx)
  have HGR := Lib.hid (fun (wx : World) (hu : Upd (fun _ => False) w wx) => great_any a0 h0 (l0.upd hu (fun _ _ h => h)))
  obtain ⟨Av, nv, cv, Ai, ni, ci, rfl, rfl⟩ := l0.shape
  have HL0 := Lib.hid l0
  have HSM := Lib.hid (fun hg => small_ok h0 hg)
  unfold msV msCells at HGR ⊢
  obtain ⟨gb, hgb⟩ : ∃ b, greatM a0 = b := ⟨_, rfl⟩
  rw [hgb] at HGR HSM
  clear h0 l0 hgb
  go_enter Try.func5, Try.ntmps5
  go_upto_region 1 with fail
  have hb1 : Blk (w.alloc (.cells (msCells a0 (.slice Av nv cv) (.slice Ai ni ci)) 34)) w.heap.size 34 (msCells a0 (.slice Av nv cv) (.slice Ai ni ci)) := Blk.new w 34 _
  have hu1 : Upd (fun _ => False) w (w.alloc (.cells (msCells a0 (.slice Av nv cv) (.slice Ai ni ci)) 34)) := (Upd.refl _ _).alloc _
  unfold msCells at hb1 hu1
  generalize w.alloc (.cells #[.int .u8 a0.kind, .int .u64 a0.bn, .int .u8 a0.br, .int .u64 a0.base, .int .u64 a0.slot, .int .u8 a0.node, .string (strOfNums a0.val), .slice Av nv cv, .slice Ai ni ci, .int .u8 a0.cmd.client, .int .u32 a0.cmd.seq, .int .u8 a0.cmd.kind, .string (strOfNums a0.cmd.key), .string (strOfNums a0.cmd.old), .string (strOfNums a0.cmd.new), .int .u8 a0.cmd.set, .int .u8 a0.code, .string (strOfNums a0.text)] 34) = w1 at *
  have HB1 := Lib.hid hb1
  have HU1 := Lib.hid hu1
  clear hu1
  go_wp2_with (first | (refine wpList_load_row rfl 34 (.tmp 2) (by rfl) w.heap.size (by rfl) 34 _ (0, 0) _ hb1 Try.underlying34 rfl (by kernel_rfl) ?_) | fail)
  clear hb1
  refine (HGR.out _ HU1.out).mono ?_
  rintro e w2 ⟨rfl, hu2⟩
  have HU2 := Lib.hid (HU1.out.trans hu2 (fun _ _ h => h))
  have HB2 := Lib.hid (HB1.out.upd hu2 id)
  clear hu2
  cases gb
  case true =>
    go_wp2_with fail
    refine (HWK.out _).mono ?_
    rintro e w3 ⟨rfl, hu3⟩
    have HU3 := Lib.hid (HU2.out.trans hu3 (fun _ _ h => h))
    clear hu3
    go_wp2_with fail
    go_ret
    exact ⟨rfl, HU3.out.below⟩
  obtain ⟨hwf, htx, hlb⟩ := HSM.out rfl
  have HP := Lib.hid (fun (wx : World) (hu : Upd (fun _ => False) w wx) => mput_any a0 hwf htx (HL0.out.upd hu (fun _ _ h => h)) hlb)
  have HWF := Lib.hid hwf
  obtain ⟨X, hX⟩ : ∃ X, putM a0 = X := ⟨_, rfl⟩
  have HPE := Lib.hid (fun h => putM_err (m := a0) h)
  rw [hX] at HP HPE
  obtain ⟨L, E⟩ := X
  unfold msV msCells at HP
  simp only at HP HPE
  clear HSM hwf htx hlb hX
  have hrow := HB2.out
  unfold msCells at hrow
  go_wp2_with (first | (refine wpList_load_row rfl 34 (.tmp 2) (by rfl) w.heap.size (by rfl) 34 _ (0, 0) _ hrow Try.underlying34 rfl (by kernel_rfl) ?_) | fail)
  clear hrow
  refine (HP.out _ HU2.out).mono ?_
  rintro e w3 ⟨rfl, hu3⟩
  have HU3 := Lib.hid (HU2.out.trans hu3 (fun _ _ h => h))
  have HB3 := Lib.hid (HB2.out.upd hu3 id)
  clear hu3
  by_cases hE : E = 0
  case neg =>
    have hne : (E != 0) = true := bne_iff_ne.2 hE
    clear hE
    go_wp2_with fail
    refine (HWK.out _).mono ?_
    rintro e w4 ⟨rfl, hu4⟩
    have HU4 := Lib.hid (HU3.out.trans hu4 (fun _ _ h => h))
    clear hu4
    go_wp2_with fail
    go_ret
    exact ⟨rfl, HU4.out.below⟩
  subst hE
  obtain ⟨p1, p2, p3⟩ := HPE.out rfl
  have hL : L = frameB (insM a0) := by
    simp only [Prod.mk.injEq, and_true] at p3
    exact p3
  have hby := frameB_byt _ (insM_byt HWF.out)
  have hins := insM_byt HWF.out
  have hne0 := insM_ne a0
  obtain ⟨I, hI⟩ : ∃ I, insM a0 = I := ⟨_, rfl⟩
  have htn := fun (i : Nat) (hi : (numE I.length).length ≤ i) (hi2 : i < (frameB I).length) (v : Int) (hv : 0 ≤ v ∧ v ≤ 255) (hne : v ≠ (frameB I)[i]) => by
    have h := takeM_turn (m := a0) p2 (i := i)
    rw [hI] at h
    exact h hi hi2 hv hne (by rw [← hI]; exact hins)
  rw [hI] at hL hby hins hne0 p2
  have hlen : 1 ≤ I.length := by
    rcases I with _ | ⟨x, l⟩
    · exact absurd rfl hne0
    · simp
  have hz : (strOfNums L).size = L.length := strOfNums_size L
  have hpos : 0 < L.length := by
    rw [hL]
    simp only [frameB, List.length_append, sumB_len]
    omega
  have hL10 : (10 : Int) ≤ (L.length : Int) := by
    have := (numE_len I.length).1
    rw [hL]
    simp only [frameB, List.length_append, sumB_len]
    omega
  have Hhby := Lib.hid hby
  have Hhins := Lib.hid hins
  have Hhne0 := Lib.hid hne0
  have Hp2 := Lib.hid p2
  have HhL := Lib.hid hL
  have Hhlen := Lib.hid hlen
  have Hhtn := Lib.hid htn
  have Hht := Lib.hid ht
  clear hby hins hne0 p2 hL hlen htn ht hI p1 p3 HPE HP
  go_upto_region 6 with fail
  go_upto_region 7 with fail
  have hby := Hhby.out
  have hins := Hhins.out
  have hne0 := Hhne0.out
  have p2 := Hp2.out
  have hL := HhL.out
  have hlen := Hhlen.out
  have htn := Hhtn.out
  have ht := Hht.out
  obtain ⟨h, hh⟩ : ∃ h, h = (numE I.length).length := ⟨_, rfl⟩
  have hnl := numE_len I.length
  have hLl : L.length = h + 8 + I.length := by
    rw [hL]
    simp only [frameB, List.length_append, sumB_len, hh]
  rw [← hh] at hnl
  have hfst : ∀ q : 0 < (strOfNums L).size, (((strOfNums L)[0]'q).toNat : Int) = if I.length < 248 then (I.length : Int) else 246 + (h : Int) := fun q => by
    rw [strOf_at L (by rw [hL]; exact hby) 0 q (by omega)]
    have e : L = numE I.length ++ (sumB I ++ I) := by rw [hL]; unfold frameB; rw [List.append_assoc]
    have e2 : L[0]? = some (if I.length < 248 then (I.length : Int) else 246 + (h : Int)) := by
      rw [e]
      unfold numE at hh ⊢
      by_cases h1 : I.length < 248
      · rw [if_pos h1, if_pos h1]
        rfl
      · rw [if_neg h1] at hh ⊢
        rw [if_neg h1]
        simp only [List.length_cons, digs_len] at hh
        simp only [List.cons_append, List.getElem?_cons_zero, Option.some.injEq]
        omega
    rw [List.getElem?_eq_getElem (by omega)] at e2
    exact Option.some.inj e2
  have hh1 : I.length < 248 → h = 1 := fun h1 => by rw [hh]; unfold numE; rw [if_pos h1]; rfl
  have ht2 := wf_u32 ht
  obtain ⟨K, hK⟩ : ∃ K : Nat, K = 8 * h + tt.toNat % (8 * (L.length - h)) := ⟨_, rfl⟩
  have hmod : tt.toNat % (8 * (L.length - h)) < 8 * (L.length - h) := Nat.mod_lt _ (by omega)
  have HTN := Lib.hid htn
  have HLF := Lib.hid hL
  have HLB : Hid (Byt L) := by show Byt L; rw [hL]; exact hby
  have HHH := Lib.hid hh
  have hkI : 8 * (h : Int) + tt % (8 * ((L.length : Int) - (h : Int))) = (K : Int) := by
    rw [hK]
    have e1 : (tt.toNat : Int) = tt := Int.toNat_of_nonneg ht2.1
    have e2 : ((L.length - h : Nat) : Int) = (L.length : Int) - (h : Int) := by omega
    rw [← e2, ← e1]
    simp
  obtain ⟨i, hi⟩ : ∃ i, i = K / 8 := ⟨_, rfl⟩
  obtain ⟨j, hj⟩ : ∃ j, j = K % 8 := ⟨_, rfl⟩
  have hib : h ≤ i ∧ i < L.length ∧ j < 8 := by omega
  have hki : (K : Int) / 8 = (i : Int) := by omega
  have hkj : (K : Int) % 8 = (j : Int) := by omega
  have hLb2 : L.length ≤ 100000 := by omega
  have hbd : (K : Int) ≤ 10000000 := by omega
  have hcvt : wrap64 tt = tt := by
    have := wf_u32 ht
    exact IntWalk.wrap64_in tt (by omega)
  have hLh : (h : Int) < (L.length : Int) := by omega
  have hh9 : (h : Int) ≤ 9 := by omega
  have HTT := Lib.hid ht2
  have HIB := Lib.hid hib
  have HNL := Lib.hid hnl
  clear htn hL hby hins hne0 hK hmod hi hj hh ht ht2 hib hnl Hhby Hhins Hhne0 Hp2 HhL Hhlen Hhtn Hht
  have HKI := Lib.hid hkI
  have HKIJ := Lib.hid (And.intro hki hkj)
  have HCVT := Lib.hid hcvt
  have HP2 : Hid ((I.length : Int) ≤ 65536) := by show _ ≤ _; omega
  have HLB2 : Hid ((L.length : Int) ≤ 100000) := by show _ ≤ _; omega
  have HBD := Lib.hid hbd
  clear hkI hki hkj hcvt p2 hLb2 hbd
  by_cases h248 : I.length < 248
  · have h1 := hh1 h248
    subst h1
    simp only [if_pos h248] at hfst
    have hb8 : decide ((248 : Int) ≤ (I.length : Int)) = false := decide_eq_false (by omega)
    have hb9 : (I.length : Int) < 248 := by omega
    clear hh1 h248 hlen hLl
    go_upto_region 9 with fail
    have ht0 := HTT.out.1
    have hL1 : (1 : Int) < (L.length : Int) := by omega
    have hLi : (L.length : Int) ≤ 100000 := by have := HLB2.out; omega
    have hcvt := HCVT.out
    obtain ⟨g, c, w4, hcv, hu4, hr4, hg4, hc1, hc2⟩ := run_bytes_row w3 L HLB.out (by have := HLB2.out; omega)
    have HC12 : Hid ((L.length : Int) ≤ (c : Int) ∧ c ≤ maxLen) := ⟨by omega, hc2⟩
    clear hc2 hc1
    have hk1 : 8 + tt % (8 * ((L.length : Int) - 1)) = (K : Int) := by have := HKI.out; simpa using this
    have hk2 : wrap64 (K : Int) = (K : Int) := IntWalk.wrap64_in _ (by have := HBD.out; omega)
    go_upto_region 13 with fail
    rw [hk2]
    clear hk1 hk2 hcvt hcv ht0 hL1 hfst hb8 hb9 hLh hh9
    obtain ⟨hki, hkj⟩ := HKIJ.out
    obtain ⟨hi1, hi2, hj8⟩ := HIB.out
    have hK0 : (0 : Int) ≤ (K : Int) := by omega
    have hz4 := hr4.cell hi2
    have hf4 := hr4.frozen hi2
    have HR4 := Lib.hid hr4
    obtain ⟨x, hx⟩ : ∃ x, L[i] = x := ⟨_, rfl⟩
    rw [hx] at hz4
    have HX := Lib.hid hx
    have hxb : 0 ≤ x ∧ x ≤ 255 := by rw [← hx]; exact HLB.out _ (List.getElem_mem hi2)
    obtain ⟨hx0, hx1⟩ := hxb
    have hj0 : (0 : Int) ≤ (j : Int) := by omega
    have hj1 : (j : Int) < 8 := by omega
    have hi0 : (0 : Int) ≤ (i : Int) := by omega
    clear hx hr4
    go_region
    obtain ⟨v, hv⟩ : ∃ v, bits .xor .u8 x ((2 : Int) ^ j % 256) = v := ⟨_, rfl⟩
    rw [hv]
    have hv0 : 0 ≤ v ∧ v ≤ 255 := by rw [← hv]; exact ⟨bits_lo_u8 _ _ _, bits_hi_u8 _ _ _⟩
    have hvx : v ≠ x := by rw [← hv]; exact xor_ne hx0 hx1 hj8
    have hr5 : Row8 (w4.setCell ⟨g, i, none⟩ (.int .u8 v)).drew g (L.set i v) := HR4.out.set_ hi2 v
    have hu5 : Upd (fun j => j = g) w4 (w4.setCell ⟨g, i, none⟩ (.int .u8 v)).drew := (Upd.set4 (F := fun j => j = g) rfl (Upd.refl _ _) _ _).drew
    have HU5 : Hid (Upd (fun _ => False) w (w4.setCell ⟨g, i, none⟩ (.int .u8 v)).drew) := (HU3.out.trans hu4 (fun _ _ h => h)).trans hu5 (fun q hq e => by have := HU3.out.size; omega)
    have hbs : Byt (L.set i v) := by
      intro y hy
      rcases List.mem_or_eq_of_mem_set hy with h' | h'
      · exact HLB.out y h'
      · rw [h']; exact hv0
    have htk : takeM (L.set i v) = (ms0 0, 5) := by
      have := HTN.out i (by rw [← HHH.out]; exact hi1) (by rw [← HLF.out]; exact hi2) v hv0
      simp only [← HLF.out] at this
      exact this (by rw [HX.out]; exact hvx)
    have HTK := Lib.hid (fun wx => mtake_any (L.set i v) hbs (by rw [List.length_set]; have := HLB2.out; omega) wx)
    rw [htk] at HTK
    have hcv := run_string_of_sl (P := Try.prog) (xs := L.set i v) 23 9 5 Try.underlying23 Try.underlying5 Try.underlying9 (hr5.sl (by rw [List.length_set]; have := HC12.out.1; omega) HC12.out.2)
    rw [List.length_set] at hcv
    generalize L.set i v = L2 at *
    generalize (w4.setCell ⟨g, i, none⟩ (.int .u8 v)).drew = w5 at *
    clear HX hv0 hvx hr5 hu5 hbs htk hv hx0 hx1 hki hkj hi1 hi2 hj8 hK0 hz4 hf4 hj0 hj1 hi0
    go_wp2_with fail
    clear hcv
    refine (HTK.out _).mono ?_
    rintro e w6 ⟨mv1, mi1, rfl, hu6, hom⟩
    have HU6 := Lib.hid (HU5.out.trans hu6 (fun _ _ h => h))
    obtain ⟨Mv, mnv, mcv, Mi, mni, mci, rfl, rfl⟩ := hom.lists.shape
    have HOM := Lib.hid hom
    clear hu6 hom
    have hmsv : msV (ms0 0, (5 : Int)).1 (.slice Mv mnv mcv) (.slice Mi mni mci) = .agg (msCells (ms0 0) (.slice Mv mnv mcv) (.slice Mi mni mci)) := rfl
    rw [hmsv]
    clear hmsv
    go_upto_region 15 with (first | (refine wpList_store_row rfl 34 (.tmp 10) (.tmp 77) (by rfl) w6.heap.size (msCells (ms0 0) (.slice Mv mnv mcv) (.slice Mi mni mci)) (by rfl) (by rfl) 34 #[.int .u8 0, .int .u64 0, .int .u8 0, .int .u64 0, .int .u64 0, .int .u8 0, .string { data := #[] }, .slice none 0 0, .slice none 0 0, .int .u8 0, .int .u32 0, .int .u8 0, .string { data := #[] }, .string { data := #[] }, .string { data := #[] }, .int .u8 0, .int .u8 0, .string { data := #[] }] (Blk.new w6 34 #[.int .u8 0, .int .u64 0, .int .u8 0, .int .u64 0, .int .u64 0, .int .u8 0, .string { data := #[] }, .slice none 0 0, .slice none 0 0, .int .u8 0, .int .u32 0, .int .u8 0, .string { data := #[] }, .string { data := #[] }, .string { data := #[] }, .int .u8 0, .int .u8 0, .string { data := #[] }]) (by kernel_rfl) rfl (msCells_one (ms0 0) Mv Mi mnv mcv mni mci) ?_) | fail)
    obtain ⟨gm, hgm⟩ : ∃ g, g = w6.heap.size := ⟨_, rfl⟩
    obtain ⟨w7, hw7⟩ : ∃ w5, w5 = (w6.alloc (.cells #[.int .u8 0, .int .u64 0, .int .u8 0, .int .u64 0, .int .u64 0, .int .u8 0, .string { data := #[] }, .slice none 0 0, .slice none 0 0, .int .u8 0, .int .u32 0, .int .u8 0, .string { data := #[] }, .string { data := #[] }, .string { data := #[] }, .int .u8 0, .int .u8 0, .string { data := #[] }] 34)).setRow w6.heap.size (msCells (ms0 0) (.slice Mv mnv mcv) (.slice Mi mni mci)) := ⟨_, rfl⟩
    rw [← hw7, ← hgm]
    have hb7 : Blk w7 gm 34 (msCells (ms0 0) (.slice Mv mnv mcv) (.slice Mi mni mci)) := by rw [hw7, hgm]; exact Blk.setRow (Blk.new w6 34 #[.int .u8 0, .int .u64 0, .int .u8 0, .int .u64 0, .int .u64 0, .int .u8 0, .string { data := #[] }, .slice none 0 0, .slice none 0 0, .int .u8 0, .int .u32 0, .int .u8 0, .string { data := #[] }, .string { data := #[] }, .string { data := #[] }, .int .u8 0, .int .u8 0, .string { data := #[] }])
    have hu7 : Upd (fun _ => False) w6 w7 := by rw [hw7]; exact ((Upd.refl _ _).alloc _).setRow (.inr (Nat.le_refl _)) _
    have HM7 := Lib.hid hb7
    have HU7 := Lib.hid (HU6.out.trans hu7 (fun _ _ h => h))
    have HOM7 := Lib.hid (HOM.out.upd hu7 (fun _ _ => id))
    clear hw7 hgm hb7 hu7
    have HSZ := Lib.hid (rsame_any (ms0 0) (ms0 0) (wf_ms0 0 (by decide) (by decide)) (wf_ms0 0 (by decide) (by decide)) HOM7.out.lists (lists_nil w7 (ms0 0) rfl rfl))
    rw [decide_eq_true rfl] at HSZ
    have HSZ2 : Hid (Calls Try.prog 11 #[.agg #[.int .u8 0, .int .u64 0, .int .u8 0, .int .u64 0, .int .u64 0, .int .u8 0, .string { data := #[] }, .slice Mv mnv mcv, .slice Mi mni mci, .int .u8 0, .int .u32 0, .int .u8 0, .string { data := #[] }, .string { data := #[] }, .string { data := #[] }, .int .u8 0, .int .u8 0, .string { data := #[] }], .agg #[.int .u8 0, .int .u64 0, .int .u8 0, .int .u64 0, .int .u64 0, .int .u8 0, .string { data := #[] }, .slice none 0 0, .slice none 0 0, .int .u8 0, .int .u32 0, .int .u8 0, .string { data := #[] }, .string { data := #[] }, .string { data := #[] }, .int .u8 0, .int .u8 0, .string { data := #[] }]] w7 fun e w' => e = .returned (.bool true) ∧ Upd (fun _ => False) w7 w') := HSZ.out
    have hrow : Blk w7 gm 34 #[.int .u8 0, .int .u64 0, .int .u8 0, .int .u64 0, .int .u64 0, .int .u8 0, .string { data := #[] }, .slice Mv mnv mcv, .slice Mi mni mci, .int .u8 0, .int .u32 0, .int .u8 0, .string { data := #[] }, .string { data := #[] }, .string { data := #[] }, .int .u8 0, .int .u8 0, .string { data := #[] }] := HM7.out
    have hlm := load_msg hrow rfl
    simp [go_sem] at hlm
    clear HSZ hrow
    go_wp2_with fail
    clear hlm
    refine HSZ2.out.mono ?_
    rintro e w8 ⟨rfl, hu8⟩
    have HU8 := Lib.hid (HU7.out.trans hu8 (fun _ _ h => h))
    clear hu8
    go_wp2_with fail
    refine (HWK.out _).mono ?_
    rintro e w9 ⟨rfl, hu9⟩
    have HU9 := Lib.hid (HU8.out.trans hu9 (fun _ _ h => h))
    clear hu9
    go_wp2_with fail
    go_ret
    exact ⟨rfl, HU9.out.below⟩
  · have hh2 : 2 ≤ h := by
      have e1 := HHH.out
      unfold numE at e1
      rw [if_neg h248, List.length_cons, digs_len] at e1
      have := nk_bd I.length
      omega
    simp only [if_neg h248] at hfst
    have hb8 : decide ((248 : Int) ≤ 246 + (h : Int)) = true := decide_eq_true (by omega)
    have hb9 : (248 : Int) ≤ 246 + (h : Int) := by omega
    have hb10 : (246 + (h : Int)) - 246 = (h : Int) := by omega
    have hb11 : decide ((9 : Int) < (h : Int)) = false := decide_eq_false (by omega)
    have hh3 : (0 : Int) ≤ (h : Int) := by omega
    clear hh1 h248 hlen hLl hh2
    go_upto_region 9 with fail
    have ht0 := HTT.out.1
    have hL1 : (h : Int) < (L.length : Int) := by omega
    have hLi : (L.length : Int) ≤ 100000 := by have := HLB2.out; omega
    have hcvt := HCVT.out
    obtain ⟨g, c, w4, hcv, hu4, hr4, hg4, hc1, hc2⟩ := run_bytes_row w3 L HLB.out (by have := HLB2.out; omega)
    have HC12 : Hid ((L.length : Int) ≤ (c : Int) ∧ c ≤ maxLen) := ⟨by omega, hc2⟩
    clear hc2 hc1
    have hk1 : 8 * (h : Int) + tt % (8 * ((L.length : Int) - (h : Int))) = (K : Int) := by have := HKI.out; simpa using this
    have hk2 : wrap64 (K : Int) = (K : Int) := IntWalk.wrap64_in _ (by have := HBD.out; omega)
    go_upto_region 13 with fail
    rw [hk2]
    clear hk1 hk2 hcvt hcv ht0 hL1 hfst hb8 hb9 hb10 hb11 hh3 hLh hh9
    obtain ⟨hki, hkj⟩ := HKIJ.out
    obtain ⟨hi1, hi2, hj8⟩ := HIB.out
    have hK0 : (0 : Int) ≤ (K : Int) := by omega
    have hz4 := hr4.cell hi2
    have hf4 := hr4.frozen hi2
    have HR4 := Lib.hid hr4
    obtain ⟨x, hx⟩ : ∃ x, L[i] = x := ⟨_, rfl⟩
    rw [hx] at hz4
    have HX := Lib.hid hx
    have hxb : 0 ≤ x ∧ x ≤ 255 := by rw [← hx]; exact HLB.out _ (List.getElem_mem hi2)
    obtain ⟨hx0, hx1⟩ := hxb
    have hj0 : (0 : Int) ≤ (j : Int) := by omega
    have hj1 : (j : Int) < 8 := by omega
    have hi0 : (0 : Int) ≤ (i : Int) := by omega
    clear hx hr4
    go_region
    obtain ⟨v, hv⟩ : ∃ v, bits .xor .u8 x ((2 : Int) ^ j % 256) = v := ⟨_, rfl⟩
    rw [hv]
    have hv0 : 0 ≤ v ∧ v ≤ 255 := by rw [← hv]; exact ⟨bits_lo_u8 _ _ _, bits_hi_u8 _ _ _⟩
    have hvx : v ≠ x := by rw [← hv]; exact xor_ne hx0 hx1 hj8
    have hr5 : Row8 (w4.setCell ⟨g, i, none⟩ (.int .u8 v)).drew g (L.set i v) := HR4.out.set_ hi2 v
    have hu5 : Upd (fun j => j = g) w4 (w4.setCell ⟨g, i, none⟩ (.int .u8 v)).drew := (Upd.set4 (F := fun j => j = g) rfl (Upd.refl _ _) _ _).drew
    have HU5 : Hid (Upd (fun _ => False) w (w4.setCell ⟨g, i, none⟩ (.int .u8 v)).drew) := (HU3.out.trans hu4 (fun _ _ h => h)).trans hu5 (fun q hq e => by have := HU3.out.size; omega)
    have hbs : Byt (L.set i v) := by
      intro y hy
      rcases List.mem_or_eq_of_mem_set hy with h' | h'
      · exact HLB.out y h'
      · rw [h']; exact hv0
    have htk : takeM (L.set i v) = (ms0 0, 5) := by
      have := HTN.out i (by rw [← HHH.out]; exact hi1) (by rw [← HLF.out]; exact hi2) v hv0
      simp only [← HLF.out] at this
      exact this (by rw [HX.out]; exact hvx)
    have HTK := Lib.hid (fun wx => mtake_any (L.set i v) hbs (by rw [List.length_set]; have := HLB2.out; omega) wx)
    rw [htk] at HTK
    have hcv := run_string_of_sl (P := Try.prog) (xs := L.set i v) 23 9 5 Try.underlying23 Try.underlying5 Try.underlying9 (hr5.sl (by rw [List.length_set]; have := HC12.out.1; omega) HC12.out.2)
    rw [List.length_set] at hcv
    generalize L.set i v = L2 at *
    generalize (w4.setCell ⟨g, i, none⟩ (.int .u8 v)).drew = w5 at *
    clear HX hv0 hvx hr5 hu5 hbs htk hv hx0 hx1 hki hkj hi1 hi2 hj8 hK0 hz4 hf4 hj0 hj1 hi0
    go_wp2_with fail
    clear hcv
    refine (HTK.out _).mono ?_
    rintro e w6 ⟨mv1, mi1, rfl, hu6, hom⟩
    have HU6 := Lib.hid (HU5.out.trans hu6 (fun _ _ h => h))
    obtain ⟨Mv, mnv, mcv, Mi, mni, mci, rfl, rfl⟩ := hom.lists.shape
    have HOM := Lib.hid hom
    clear hu6 hom
    have hmsv : msV (ms0 0, (5 : Int)).1 (.slice Mv mnv mcv) (.slice Mi mni mci) = .agg (msCells (ms0 0) (.slice Mv mnv mcv) (.slice Mi mni mci)) := rfl
    rw [hmsv]
    clear hmsv
    go_upto_region 15 with (first | (refine wpList_store_row rfl 34 (.tmp 10) (.tmp 77) (by rfl) w6.heap.size (msCells (ms0 0) (.slice Mv mnv mcv) (.slice Mi mni mci)) (by rfl) (by rfl) 34 #[.int .u8 0, .int .u64 0, .int .u8 0, .int .u64 0, .int .u64 0, .int .u8 0, .string { data := #[] }, .slice none 0 0, .slice none 0 0, .int .u8 0, .int .u32 0, .int .u8 0, .string { data := #[] }, .string { data := #[] }, .string { data := #[] }, .int .u8 0, .int .u8 0, .string { data := #[] }] (Blk.new w6 34 #[.int .u8 0, .int .u64 0, .int .u8 0, .int .u64 0, .int .u64 0, .int .u8 0, .string { data := #[] }, .slice none 0 0, .slice none 0 0, .int .u8 0, .int .u32 0, .int .u8 0, .string { data := #[] }, .string { data := #[] }, .string { data := #[] }, .int .u8 0, .int .u8 0, .string { data := #[] }]) (by kernel_rfl) rfl (msCells_one (ms0 0) Mv Mi mnv mcv mni mci) ?_) | fail)
    obtain ⟨gm, hgm⟩ : ∃ g, g = w6.heap.size := ⟨_, rfl⟩
    obtain ⟨w7, hw7⟩ : ∃ w5, w5 = (w6.alloc (.cells #[.int .u8 0, .int .u64 0, .int .u8 0, .int .u64 0, .int .u64 0, .int .u8 0, .string { data := #[] }, .slice none 0 0, .slice none 0 0, .int .u8 0, .int .u32 0, .int .u8 0, .string { data := #[] }, .string { data := #[] }, .string { data := #[] }, .int .u8 0, .int .u8 0, .string { data := #[] }] 34)).setRow w6.heap.size (msCells (ms0 0) (.slice Mv mnv mcv) (.slice Mi mni mci)) := ⟨_, rfl⟩
    rw [← hw7, ← hgm]
    have hb7 : Blk w7 gm 34 (msCells (ms0 0) (.slice Mv mnv mcv) (.slice Mi mni mci)) := by rw [hw7, hgm]; exact Blk.setRow (Blk.new w6 34 #[.int .u8 0, .int .u64 0, .int .u8 0, .int .u64 0, .int .u64 0, .int .u8 0, .string { data := #[] }, .slice none 0 0, .slice none 0 0, .int .u8 0, .int .u32 0, .int .u8 0, .string { data := #[] }, .string { data := #[] }, .string { data := #[] }, .int .u8 0, .int .u8 0, .string { data := #[] }])
    have hu7 : Upd (fun _ => False) w6 w7 := by rw [hw7]; exact ((Upd.refl _ _).alloc _).setRow (.inr (Nat.le_refl _)) _
    have HM7 := Lib.hid hb7
    have HU7 := Lib.hid (HU6.out.trans hu7 (fun _ _ h => h))
    have HOM7 := Lib.hid (HOM.out.upd hu7 (fun _ _ => id))
    clear hw7 hgm hb7 hu7
    have HSZ := Lib.hid (rsame_any (ms0 0) (ms0 0) (wf_ms0 0 (by decide) (by decide)) (wf_ms0 0 (by decide) (by decide)) HOM7.out.lists (lists_nil w7 (ms0 0) rfl rfl))
    rw [decide_eq_true rfl] at HSZ
    have HSZ2 : Hid (Calls Try.prog 11 #[.agg #[.int .u8 0, .int .u64 0, .int .u8 0, .int .u64 0, .int .u64 0, .int .u8 0, .string { data := #[] }, .slice Mv mnv mcv, .slice Mi mni mci, .int .u8 0, .int .u32 0, .int .u8 0, .string { data := #[] }, .string { data := #[] }, .string { data := #[] }, .int .u8 0, .int .u8 0, .string { data := #[] }], .agg #[.int .u8 0, .int .u64 0, .int .u8 0, .int .u64 0, .int .u64 0, .int .u8 0, .string { data := #[] }, .slice none 0 0, .slice none 0 0, .int .u8 0, .int .u32 0, .int .u8 0, .string { data := #[] }, .string { data := #[] }, .string { data := #[] }, .int .u8 0, .int .u8 0, .string { data := #[] }]] w7 fun e w' => e = .returned (.bool true) ∧ Upd (fun _ => False) w7 w') := HSZ.out
    have hrow : Blk w7 gm 34 #[.int .u8 0, .int .u64 0, .int .u8 0, .int .u64 0, .int .u64 0, .int .u8 0, .string { data := #[] }, .slice Mv mnv mcv, .slice Mi mni mci, .int .u8 0, .int .u32 0, .int .u8 0, .string { data := #[] }, .string { data := #[] }, .string { data := #[] }, .int .u8 0, .int .u8 0, .string { data := #[] }] := HM7.out
    have hlm := load_msg hrow rfl
    simp [go_sem] at hlm
    clear HSZ hrow
    go_wp2_with fail
    clear hlm
    refine HSZ2.out.mono ?_
    rintro e w8 ⟨rfl, hu8⟩
    have HU8 := Lib.hid (HU7.out.trans hu8 (fun _ _ h => h))
    clear hu8
    go_wp2_with fail
    refine (HWK.out _).mono ?_
    rintro e w9 ⟨rfl, hu9⟩
    have HU9 := Lib.hid (HU8.out.trans hu9 (fun _ _ h => h))
    clear hu9
    go_wp2_with fail
    go_ret
    exact ⟨rfl, HU9.out.below⟩
end Go.Proofs.Ytaielcokfpodaaa
