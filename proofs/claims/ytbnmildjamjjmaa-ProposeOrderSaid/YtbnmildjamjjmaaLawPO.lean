/-
  ProposeOrder: the walk of the statement's own text. Conditions: none.
-/
import Derived.Test.YtbnmildjamjjmaaPropF
import Derived.Test.YtbnmildjamjjmaaSetP
namespace Go.Proofs.Ytbnmildjamjjmaa
open Go.RowKit Go.Maps

/-- A desk of one slot behind votes T, and how often it was decided. -/
def DS (c : Int) (v : ByteArray) (slot : Int) (T : List Int) (M : List PO) (a : Nat) : Prop :=
  (majF c (inT T) = true ∧ M = [] ∧ a = 1) ∨ (majF c (inT T) = false ∧ M = [⟨slot, v, c, whoS c T⟩] ∧ a = 0)
theorem ds_nil (c : Int) (v : ByteArray) (slot : Int) : DS c v slot [] [⟨slot, v, c, 0⟩] 0 := by
  refine .inr ⟨decide_eq_false ?_, rfl, rfl⟩
  have : cnt (fun i => has7 c i && inT [] i) = 0 := by
    have h := cnt_congr (f := fun i => has7 c i && inT [] i) (g := fun _ => false) (fun i _ => by simp [inT])
    rw [h]; rfl
  omega
theorem ds_len {c : Int} {v : ByteArray} {slot : Int} {T : List Int} {M : List PO} {a : Nat} (h : DS c v slot T M a) : M.length ≤ 1 ∧ a ≤ 1 := by
  rcases h with ⟨_, rfl, rfl⟩ | ⟨_, rfl, rfl⟩ <;> simp
theorem ds_rising {c : Int} {v : ByteArray} {slot : Int} {T : List Int} {M : List PO} {a : Nat} (h : DS c v slot T M a) (hw : (Lit.int .u64 slot).wf = true) : Rising M := by
  rcases h with ⟨_, rfl, rfl⟩ | ⟨_, rfl, rfl⟩
  · exact kr0
  · exact ⟨List.pairwise_singleton _ _, fun o ho => by rw [List.mem_singleton] at ho; subst ho; exact hw⟩
theorem ds_step {c : Int} (c0 : 0 ≤ c) (c1 : c ≤ 255) {v : ByteArray} {slot : Int} {T : List Int} {M : List PO} {a : Nat} (hT : ∀ n ∈ T, 0 ≤ n ∧ n ≤ 255) (h : DS c v slot T M a) {n : Int} (n0 : 0 ≤ n) (n1 : n ≤ 255) :
    DS c v slot (T ++ [n]) (votedP M n slot).1 (a + if (votedP M n slot).2.2 then 1 else 0) := by
  rcases h with ⟨hm, rfl, rfl⟩ | ⟨hm, rfl, rfl⟩
  · exact .inl ⟨majF_mono (fun i _ => inT_mono (fun x hx => List.mem_append_left _ hx) i) hm, rfl, rfl⟩
  · have hT' : ∀ m ∈ T ++ [n], 0 ≤ m ∧ m ≤ 255 := fun m hmm => by
      rcases List.mem_append.1 hmm with h | h
      · exact hT m h
      · rw [List.mem_singleton] at h; subst h; exact ⟨n0, n1⟩
    have hmw := maj_who c0 c1 (T ++ [n]) hT'
    have hwho : (votedO ⟨slot, v, c, whoS c T⟩ n).who = whoS c (T ++ [n]) := (whoS_snoc c T n).symm
    have hset : setM [⟨slot, v, c, whoS c T⟩] (votedO ⟨slot, v, c, whoS c T⟩ n) = [⟨slot, v, c, whoS c (T ++ [n])⟩] := by
      rw [whoS_snoc]; simp [setM, votedO]
    have hf : [(⟨slot, v, c, whoS c T⟩ : PO)].find? (fun o => o.slot == slot) = some ⟨slot, v, c, whoS c T⟩ := by simp
    have hcl : closeM [(⟨slot, v, c, whoS c T⟩ : PO)] slot = [] := by simp [closeM]
    unfold votedP
    simp only [hf, hwho, hmw, hset, hcl]
    cases hm2 : majF c (inT (T ++ [n]))
    · exact .inr ⟨hm2, rfl, rfl⟩
    · exact .inl ⟨hm2, rfl, rfl⟩
theorem ds_end {c : Int} {v : ByteArray} {slot : Int} {T T' : List Int} {M : List PO} {a : Nat} (h : DS c v slot T M a) (h1 : ∀ x ∈ T, x ∈ T') (h2 : ∀ x ∈ T', x ∈ T) : (a : Int) = if majF c (inT T') then 1 else 0 := by
  have e : majF c (inT T) = majF c (inT T') := majF_congr (fun i _ => by
    have : inT T i = inT T' i := by
      cases h3 : inT T' i
      · cases h4 : inT T i
        · rfl
        · rw [inT_mono h1 i h4] at h3; cases h3
      · exact inT_mono h2 i h3
    rw [this])
  rcases h with ⟨hm, _, rfl⟩ | ⟨hm, _, rfl⟩ <;> rw [← e, hm] <;> rfl

theorem with00 : ∀ s : Fin 256, setWith (setWith (s.val : Int) 0) 0 = setWith (s.val : Int) 0 := by decide +kernel
theorem open_one {s : Int} (h0 : 0 ≤ s) (h1 : s ≤ 255) (hl : setLen (setWith s 0) ≠ 0) (slot : Int) (hs : 0 < slot) (hs2 : slot ≤ 100) : openE slot (setWith s 0) 0 = 0 := by
  have hb : openBad slot (setWith s 0) = false := by
    obtain ⟨t, rfl⟩ := fin_of h0 h1
    have := with00 t
    refine decide_eq_false ?_
    rintro (h | h | h | h)
    · omega
    · omega
    · exact hl h
    · exact h this
  unfold openE
  rw [hb]
  simp only [Bool.false_eq_true, if_false]
  rw [if_neg (by omega)]

attribute [local irreducible] setLen setWith setBoth setMaj openE openBad votedP

def kV : ByteArray := { data := #[118] }
theorem wf1 : (Lit.int .u64 1).wf = true := by decide
theorem wf9 : (Lit.int .u64 9).wf = true := by decide

theorem order_great (s : Int) (A1 A2 : Option Addr) (l1 c1 l2 c2 : Nat) (w : World) (hg : 60 < l1 ∨ 60 < l2) :
    Calls Try.prog 5 #[.int .u8 s, .slice A1 l1 c1, .slice A2 l2 c2] w fun e w' => e = .returned (.bool true) ∧ Below w.heap.size w w' := by
  by_cases h1 : (60 : Int) < (l1 : Int)
  · clear hg
    go_enter Try.func5, Try.ntmps5
    go_wp2_with fail
    refine (wakes20_true _).mono ?_
    rintro e w' ⟨rfl, hu⟩
    have HU := Lib.hid hu
    clear hu
    go_wp2_with fail
    go_ret
    exact ⟨rfl, HU.out.below⟩
  · have h2 : (60 : Int) < (l2 : Int) := by omega
    clear hg
    go_enter Try.func5, Try.ntmps5
    go_wp2_with fail
    refine (wakes20_true _).mono ?_
    rintro e w' ⟨rfl, hu⟩
    have HU := Lib.hid hu
    clear hu
    go_wp2_with fail
    go_ret
    exact ⟨rfl, HU.out.below⟩

theorem order_none (s : Int) (A1 A2 : Option Addr) (l1 c1 l2 c2 : Nat) (w : World) (h1 : (l1 : Int) ≤ 60) (h2 : (l2 : Int) ≤ 60) (hl : setLen (setWith s 0) = 0) :
    Calls Try.prog 5 #[.int .u8 s, .slice A1 l1 c1, .slice A2 l2 c2] w fun e w' => e = .returned (.bool true) ∧ Below w.heap.size w w' := by
  have HL := Lib.hid (fun (wx : World) => hl ▸ len_any (setWith s 0) wx)
  clear hl
  go_enter Try.func5, Try.ntmps5
  go_wp2_with fail
  refine (with_any _ _ _).mono ?_
  rintro e w' ⟨rfl, rfl⟩
  go_wp2_with fail
  refine (HL.out _).mono ?_
  rintro e w' ⟨rfl, rfl⟩
  go_wp2_with fail
  refine (wakes20_true _).mono ?_
  rintro e w' ⟨rfl, hu⟩
  have HU := Lib.hid hu
  clear hu
  go_wp2_with fail
  go_ret
  exact ⟨rfl, HU.out.below⟩

/-- What the two desks are while the votes come. -/
structure OrdI (w : World) (FD FE : Nat → Prop) (pd pe : Value) (c : Int) (T1 T2 : List Int) (a b : Nat) (wr : World) : Prop where
  upd : Upd (fun _ => False) w wr
  d : ∃ M, Dsk wr FD pd M 1 ∧ DS c kV 1 T1 M a
  e : ∃ M, Dsk wr FE pe M 9 ∧ DS c kV 9 T2 M b

theorem ord_d {w : World} {FD FE : Nat → Prop} {pd pe : Value} {c : Int} {T1 T2 : List Int} {a b : Nat} {wr : World} (c0 : 0 ≤ c) (c1 : c ≤ 255) (hD : ∀ k, FD k → w.heap.size ≤ k) (hE : ∀ k, FE k → ¬ FD k) (hT : ∀ n ∈ T1, 0 ≤ n ∧ n ≤ 255)
    (h : OrdI w FD FE pd pe c T1 T2 a b wr) (n : Int) (n0 : 0 ≤ n) (n1 : n ≤ 255) :
    Calls Try.prog 14 #[pd, .int .u8 n, .int .u64 1] wr fun e w' => ∃ (x : Int × ByteArray) (is : Bool), e = .returned (.tuple #[itemV x, .bool is]) ∧ OrdI w FD FE pd pe c (T1 ++ [n]) T2 (a + if is then 1 else 0) b w' := by
  obtain ⟨M, hd, hs⟩ := h.d
  obtain ⟨M2, he, hs2⟩ := h.e
  refine (pvoted_any hd (ds_rising hs wf1) n 1 wf1 n0 n1 (by have := (ds_len hs).1; omega)).mono ?_
  rintro e w' ⟨rfl, hu, hd'⟩
  exact ⟨_, _, rfl, upd_new h.upd hD hu, ⟨_, hd', ds_step c0 c1 hT hs n0 n1⟩, ⟨_, he.upd hu hE, hs2⟩⟩
theorem ord_e {w : World} {FD FE : Nat → Prop} {pd pe : Value} {c : Int} {T1 T2 : List Int} {a b : Nat} {wr : World} (c0 : 0 ≤ c) (c1 : c ≤ 255) (hD : ∀ k, FE k → w.heap.size ≤ k) (hE : ∀ k, FD k → ¬ FE k) (hT : ∀ n ∈ T2, 0 ≤ n ∧ n ≤ 255)
    (h : OrdI w FD FE pd pe c T1 T2 a b wr) (n : Int) (n0 : 0 ≤ n) (n1 : n ≤ 255) :
    Calls Try.prog 14 #[pe, .int .u8 n, .int .u64 9] wr fun e w' => ∃ (x : Int × ByteArray) (is : Bool), e = .returned (.tuple #[itemV x, .bool is]) ∧ OrdI w FD FE pd pe c T1 (T2 ++ [n]) a (b + if is then 1 else 0) w' := by
  obtain ⟨M, hd, hs⟩ := h.d
  obtain ⟨M2, he, hs2⟩ := h.e
  refine (pvoted_any he (ds_rising hs2 wf9) n 9 wf9 n0 n1 (by have := (ds_len hs2).1; omega)).mono ?_
  rintro e w' ⟨rfl, hu, he'⟩
  exact ⟨_, _, rfl, upd_new h.upd hD hu, ⟨_, hd.upd hu hE, hs⟩, ⟨_, he', ds_step c0 c1 hT hs2 n0 n1⟩⟩
theorem OrdI.step {w : World} {FD FE : Nat → Prop} {pd pe : Value} {c : Int} {T1 T2 : List Int} {a b : Nat} {wr w2 : World} (h : OrdI w FD FE pd pe c T1 T2 a b wr) (hu : Upd (fun _ => False) wr w2) : OrdI w FD FE pd pe c T1 T2 a b w2 := by
  obtain ⟨M, hd, hs⟩ := h.d
  obtain ⟨M2, he, hs2⟩ := h.e
  exact ⟨h.upd.trans hu (fun _ _ h => h), ⟨M, hd.upd hu (fun _ _ h => h), hs⟩, ⟨M2, he.upd hu (fun _ _ h => h), hs2⟩⟩

set_option maxRecDepth 100000 in
set_option maxHeartbeats 4000000 in
theorem order_main (s : Int) (h0 : 0 ≤ s) (h1 : s ≤ 255) (A1 A2 : Option Addr) (l1 c1 l2 c2 : Nat) (L1 L2 : List Int) (w : World) (hn1 : l1 ≤ 60) (hn2 : l2 ≤ 60) (hn0 : 0 < l1) (hl : setLen (setWith s 0) ≠ 0)
    (hs1 : Sl w (fun g => g < w.heap.size) 1 (.slice A1 l1 c1) l1 (L1.map (Value.int .u8))) (hs2 : Sl w (fun g => g < w.heap.size) 1 (.slice A2 l2 c2) l2 (L2.map (Value.int .u8))) (hb1 : ∀ x ∈ L1, 0 ≤ x ∧ x ≤ 255) (hb2 : ∀ x ∈ L2, 0 ≤ x ∧ x ≤ 255) (hl1 : L1.length = l1) (hl2 : L2.length = l2) :
    Calls Try.prog 5 #[.int .u8 s, .slice A1 l1 c1, .slice A2 l2 c2] w fun e w' => e = .returned (.bool true) ∧ Below w.heap.size w w' := by
  have HO1 := Lib.hid (open_one h0 h1 hl 1 (by omega) (by omega))
  have HO9 := Lib.hid (open_one h0 h1 hl 9 (by omega) (by omega))
  obtain ⟨c, hc⟩ : ∃ c, setWith s 0 = c := ⟨_, rfl⟩
  have cb := setWith_bd s 0
  have HWT := Lib.hid (fun (wx : World) => hc ▸ with_any s 0 wx)
  rw [hc] at HO1 HO9 hl cb
  obtain ⟨cb0, cb1⟩ := cb
  have hlb : (setLen c == 0) = false := beq_eq_false_iff_ne.2 hl
  have HS1 := Lib.hid hs1
  have HS2 := Lib.hid hs2
  have HB1 := Lib.hid hb1
  have HB2 := Lib.hid hb2
  have HL1 := Lib.hid hl1
  have HL2 := Lib.hid hl2
  have hi1 : (l1 : Int) ≤ 60 := by omega
  have hi2 : (l2 : Int) ≤ 60 := by omega
  clear hc hl hs1 hs2 hb1 hb2 hl1 hl2
  go_enter Try.func5, Try.ntmps5
  go_wp2_with fail
  refine (HWT.out _).mono ?_
  rintro e w' ⟨rfl, rfl⟩
  go_wp2_with fail
  refine (len_any _ _).mono ?_
  rintro e w' ⟨rfl, rfl⟩
  go_wp2_with fail
  refine (pnew_any w).mono ?_
  rintro e w1 ⟨pd, rfl, hu1, hd1⟩
  obtain ⟨bd, rfl⟩ := hd1.ptr
  have HU1 := Lib.hid hu1
  have HD1 := Lib.hid hd1
  clear hu1 hd1
  go_wp2_with fail
  refine (pnew_any w1).mono ?_
  rintro e w2 ⟨pe, rfl, hu2, hd2⟩
  obtain ⟨be, rfl⟩ := hd2.ptr
  have HU2 := Lib.hid hu2
  have HD2 := Lib.hid (HD1.out.upd hu2 (fun _ _ h => h))
  have HE2 := Lib.hid hd2
  clear hu2 hd2
  go_wp2_with fail
  refine (popen_any HD2.out 1 kV c (by omega) (by simp) (by simp)).mono ?_
  rw [HO1.out, show openM [] 0 1 kV c = [⟨1, kV, c, 0⟩] from by unfold openM; rw [HO1.out]; rfl, show openL 0 1 c = 1 from by unfold openL; rw [HO1.out]; rfl]
  rintro e w3 ⟨rfl, hu3, hd3⟩
  have HU3 := Lib.hid hu3
  have HD3 := Lib.hid hd3
  have HE3 := Lib.hid (HE2.out.upd hu3 (fun k hk h => by have h1 := hk.1; have h2 := h.2; omega))
  clear hu3 hd3
  go_wp2_with fail
  refine (popen_any HE3.out 9 kV c (by omega) (by simp) (by simp)).mono ?_
  rw [HO9.out, show openM [] 0 9 kV c = [⟨9, kV, c, 0⟩] from by unfold openM; rw [HO9.out]; rfl, show openL 0 9 c = 9 from by unfold openL; rw [HO9.out]; rfl]
  rintro e w4 ⟨rfl, hu4, he4⟩
  have HD4 := Lib.hid (HD3.out.upd hu4 (fun k hk h => by have h1 := hk.2; have h2 := h.1; omega))
  obtain ⟨FD, hFD⟩ : ∃ F : Nat → Prop, F = fun k => w.heap.size ≤ k ∧ k < w1.heap.size := ⟨_, rfl⟩
  obtain ⟨FE, hFE⟩ : ∃ F : Nat → Prop, F = fun k => w1.heap.size ≤ k ∧ k < w2.heap.size := ⟨_, rfl⟩
  have KD : Hid (∀ k, FD k → w.heap.size ≤ k) := by rw [hFD]; exact fun k h => h.1
  have KE : Hid (∀ k, FE k → w.heap.size ≤ k) := by rw [hFE]; exact fun k h => Nat.le_trans HU1.out.size h.1
  have KDE : Hid (∀ k, FD k → ¬ FE k) := by rw [hFD, hFE]; exact fun k h h2 => by have h1 := h.2; have h3 := h2.1; omega
  have KED : Hid (∀ k, FE k → ¬ FD k) := fun k h h2 => KDE.out k h2 h
  have HI4 : Hid (OrdI w FD FE (.pointer (some ⟨bd, 0, none⟩)) (.pointer (some ⟨be, 0, none⟩)) c [] [] 0 0 w4) := by
    refine ⟨((HU1.out.trans HU2.out (fun _ _ h => h)).trans HU3.out (fun k hk h => by have := h.1; omega)).trans hu4 (fun k hk h => by have h1 := h.1; have h2 := HU1.out.size; omega), ⟨_, ?_, ds_nil _ _ _⟩, ⟨_, ?_, ds_nil _ _ _⟩⟩
    · rw [hFD]; exact HD4.out
    · rw [hFE]; exact he4
  clear hFD hFE hu4 he4 HU1 HD1 HU2 HD2 HE2 HU3 HD3 HE3 HD4 HO1 HO9 HWT
  obtain ⟨b1, o1, rfl, hbl1, _, hcell1⟩ : ∃ b o, A1 = some ⟨b, o, none⟩ ∧ b < w.heap.size ∧ l1 ≤ c1 ∧ ∀ k (hk : k < L1.length), w.cell? ⟨b, o + k, none⟩ = some (.int .u8 L1[k]) := by
    obtain ⟨b, o, cc, e, hG, _, hcell⟩ := HS1.out.at_ hn0
    simp only [Value.slice.injEq, true_and] at e
    obtain ⟨rfl, rfl⟩ := e
    refine ⟨b, o, rfl, hG, ?_, fun k hk => ?_⟩
    · obtain ⟨_, _, e, h, _⟩ := HS1.out.shape
      simp only [Value.slice.injEq, true_and] at e
      rw [e.2]; exact h
    · obtain ⟨b', o', cc', e', _, _, hcell'⟩ := HS1.out.at_ (k := k) (by have := HL1.out; omega)
      simp only [Value.slice.injEq, Option.some.injEq, Addr.mk.injEq, true_and, and_true] at e'
      obtain ⟨⟨rfl, rfl⟩, _⟩ := e'
      rw [hcell', List.getElem?_map, List.getElem?_eq_getElem hk, Option.map_some]
  have HC1 := Lib.hid hcell1
  clear hcell1
  go_wp2_with fail
  go_loopw [10, 12, 13] (fun a sm i wr => ∃ (k q : Nat), k ≤ l1 ∧ q ≤ 1 ∧ i = .int .i64 k ∧ a = .int .i64 q ∧ sm = .int .u8 (someS (L1.take k)) ∧ OrdI w FD FE (.pointer (some ⟨bd, 0, none⟩)) (.pointer (some ⟨be, 0, none⟩)) c (L1.take k) [] q 0 wr) (fun _ _ i _ => l1 - (intOf i).toNat)
  case atStart => exact ⟨0, 0, Nat.zero_le _, by omega, rfl, rfl, rfl, HI4.out⟩
  case round =>
    obtain ⟨k, q, hk, hq, rfl, rfl, rfl, hI⟩ := hrel
    by_cases hlt : k < l1
    · have hkL : k < L1.length := by rw [HL1.out]; exact hlt
      have e1 : wr.cell? ⟨b1, o1 + k, none⟩ = some (.int .u8 L1[k]) := (hI.upd.cell (p := ⟨b1, o1 + k, none⟩) hbl1 id).trans (HC1.out k hkL)
      have e2 : (wr.alloc (.cells #[.int .u8 L1[k]] 5)).cell? ⟨b1, o1 + k, none⟩ = some (.int .u8 L1[k]) := ((hI.upd.alloc _).cell (p := ⟨b1, o1 + k, none⟩) hbl1 id).trans (HC1.out k hkL)
      obtain ⟨x0, x1⟩ := HB1.out L1[k] (List.getElem_mem hkL)
      have HT : Hid (L1.take k ++ [L1[k]] = L1.take (k + 1)) := (List.take_succ_eq_append_getElem hkL).symm
      have HSM : Hid (setWith (someS (L1.take k)) (setOf1 L1[k]) = someS (L1.take (k + 1))) := by show _ = _; rw [← HT.out, someS_snoc]
      have HTB : Hid (∀ n ∈ L1.take k, 0 ≤ n ∧ n ≤ 255) := fun n hn => HB1.out n (List.mem_of_mem_take hn)
      have HI := Lib.hid hI
      clear hI
      generalize L1[k] = x at *
      go_wp2_with fail
      refine (of_one _ x _ 5 (Blk.new _ _ _) x0 x1).mono ?_
      rintro e w' ⟨rfl, rfl⟩
      go_wp2_with fail
      refine (with_any _ _ _).mono ?_
      rintro e w' ⟨rfl, rfl⟩
      rw [HSM.out]
      go_wp2_with fail
      refine (ord_d cb0 cb1 KD.out KED.out HTB.out (HI.out.step ((Upd.refl _ _).alloc _)) x x0 x1).mono ?_
      rintro e w5 ⟨⟨i1, i2⟩, is, rfl, hI5⟩
      rw [HT.out] at hI5
      have hq5 : q + (if is then 1 else 0) ≤ 1 := by obtain ⟨_, _, h⟩ := hI5.d; exact (ds_len h).2
      have HI5 := Lib.hid hI5
      have HQ5 := Lib.hid hq5
      clear hI5 hq5
      unfold itemV
      cases is
      · go_wp2_with fail
        go_roundw
        case rel => exact ⟨k + 1, q, by omega, hq, by go_num, rfl, rfl, HI5.out.step ((Upd.refl _ _).alloc _)⟩
        case measure => simp [intOf]; omega
      · go_wp2_with fail
        go_roundw
        case rel => exact ⟨k + 1, q + 1, by omega, HQ5.out, by go_num, by go_num, rfl, HI5.out.step ((Upd.refl _ _).alloc _)⟩
        case measure => simp [intOf]; omega
    · have hke : k = L1.length := by rw [HL1.out]; omega
      have hkl : ¬ ((k : Int) < (l1 : Int)) := by omega
      rw [List.take_of_length_le (by omega)] at *
      have HI := Lib.hid hI
      have HKE := Lib.hid hke
      clear hI hke
      obtain ⟨wq, hwq⟩ : ∃ wq, wq = wr := ⟨_, rfl⟩
      rw [← hwq] at HI ⊢
      clear hwq
      have hp1 : (0 : Int) < (l1 : Int) := by omega
      go_wp2_with fail
      clear hk hkl hlt
      go_loopw [11, 16] (fun b i wr => ∃ (k r : Nat) (T : List Int), k ≤ l2 ∧ r ≤ 1 ∧ i = .int .i64 k ∧ b = .int .i64 r ∧ (∀ x ∈ T, x ∈ L1) ∧ OrdI w FD FE (.pointer (some ⟨bd, 0, none⟩)) (.pointer (some ⟨be, 0, none⟩)) c L1 T q r wr) (fun _ i _ => l2 - (intOf i).toNat)
      case atStart => exact ⟨0, 0, [], Nat.zero_le _, by omega, rfl, rfl, by simp, HI.out⟩
      case round =>
        obtain ⟨k2, r, T, hk2, hr, rfl, rfl, hTL, hI⟩ := hrel
        by_cases hlt2 : k2 < l2
        · have hkL : k2 < L2.length := by rw [HL2.out]; exact hlt2
          obtain ⟨b2, o2, cc2, ee, hbl2, _, hcell2⟩ := HS2.out.at_ hlt2
          simp only [Value.slice.injEq, true_and] at ee
          obtain ⟨rfl, rfl⟩ := ee
          rw [List.getElem?_map, List.getElem?_eq_getElem hkL, Option.map_some] at hcell2
          obtain ⟨y0, y1⟩ := HB2.out L2[k2] (List.getElem_mem hkL)
          have e1 : wr.cell? ⟨b2, o2 + k2, none⟩ = some (.int .u8 L2[k2]) := (hI.upd.cell (p := ⟨b2, o2 + k2, none⟩) hbl2 id).trans hcell2
          generalize L2[k2] = y at *
          obtain ⟨j, hj⟩ : ∃ j : Nat, y % (l1 : Int) = (j : Int) := ⟨(y % (l1 : Int)).toNat, by have := Int.emod_nonneg y (show (l1 : Int) ≠ 0 by omega); omega⟩
          have hjl : j < l1 := by have := Int.emod_lt_of_pos y hp1; omega
          have hjL : j < L1.length := by rw [HL1.out]; exact hjl
          have e2 : wr.cell? ⟨b1, o1 + j, none⟩ = some (.int .u8 L1[j]) := (hI.upd.cell (p := ⟨b1, o1 + j, none⟩) hbl1 id).trans (HC1.out j hjL)
          obtain ⟨x0, x1⟩ := HB1.out L1[j] (List.getElem_mem hjL)
          have HTB : Hid (∀ n ∈ T, 0 ≤ n ∧ n ≤ 255) := fun n hn => HB1.out n (hTL n hn)
          have HTL : Hid (∀ n ∈ T ++ [L1[j]], n ∈ L1) := fun n hn => by
            rcases List.mem_append.1 hn with h | h
            · exact hTL n h
            · rw [List.mem_singleton] at h; rw [h]; exact List.getElem_mem hjL
          have HTL0 := Lib.hid hTL
          have HI := Lib.hid hI
          clear hI hTL hcell2
          generalize L1[j] = x at *
          clear hkL hjL
          go_wp2_with fail
          refine (ord_e cb0 cb1 KE.out KDE.out HTB.out HI.out x x0 x1).mono ?_
          rintro e w5 ⟨⟨i1, i2⟩, is, rfl, hI5⟩
          have hr5 : r + (if is then 1 else 0) ≤ 1 := by obtain ⟨_, _, h⟩ := hI5.e; exact (ds_len h).2
          have HI5 := Lib.hid hI5
          have HR5 := Lib.hid hr5
          clear hI5 hr5 hj
          unfold itemV
          cases is
          · go_wp2_with fail
            go_roundw
            case rel => exact ⟨k2 + 1, r, _, by omega, hr, by go_num, rfl, HTL.out, HI5.out.step ((Upd.refl _ _).alloc _)⟩
            case measure => simp [intOf]; omega
          · go_wp2_with fail
            go_roundw
            case rel => exact ⟨k2 + 1, r + 1, _, by omega, HR5.out, by go_num, by go_num, HTL.out, HI5.out.step ((Upd.refl _ _).alloc _)⟩
            case measure => simp [intOf]; omega
        · have hkl2 : ¬ ((k2 : Int) < (l2 : Int)) := by omega
          have HI := Lib.hid hI
          have HTL := Lib.hid hTL
          clear hI hTL
          go_wp2_with fail
          clear hlt2 hkl2
          go_loopw [11, 19] (fun b i wr => ∃ (m r : Nat) (T : List Int), m ≤ l1 ∧ r ≤ 1 ∧ i = .int .i64 ((m : Int) - 1) ∧ b = .int .i64 r ∧ (∀ x ∈ T, x ∈ L1) ∧ (∀ x ∈ L1.drop m, x ∈ T) ∧ OrdI w FD FE (.pointer (some ⟨bd, 0, none⟩)) (.pointer (some ⟨be, 0, none⟩)) c L1 T q r wr) (fun _ i _ => (intOf i + 1).toNat)
          case atStart => exact ⟨l1, r, T, Nat.le_refl _, hr, rfl, rfl, HTL.out, by rw [List.drop_of_length_le (by rw [HL1.out]; exact Nat.le_refl _)]; simp, HI.out⟩
          case round =>
            obtain ⟨m, r, T, hm, hr, rfl, rfl, hTL, hDT, hI⟩ := hrel
            cases m with
            | zero =>
              rw [show ((0 : Nat) : Int) - 1 = -1 from rfl]
              rw [List.drop_zero] at hDT
              have hq1 : (q : Int) = if majF c (inT L1) then 1 else 0 := by obtain ⟨_, _, h⟩ := hI.d; exact ds_end h (fun _ h => h) (fun _ h => h)
              have hr1 : (r : Int) = if majF c (inT L1) then 1 else 0 := by obtain ⟨_, _, h⟩ := hI.e; exact ds_end h hTL hDT
              have HM := Lib.hid (fun (wx : World) => maj_some cb0 cb1 L1 HB1.out ▸ major_any c (someS L1) wx)
              have HU := Lib.hid hI.upd
              clear hI hTL hDT
              cases hmj : majF c (inT L1)
              · rw [hmj] at hq1 hr1 HM
                have hq2 : q = 0 := by simpa using hq1
                have hr2 : r = 0 := by simpa using hr1
                subst hq2
                subst hr2
                clear hq1 hr1 hmj
                go_wp2_with fail
                refine (HM.out _).mono ?_
                rintro e w' ⟨rfl, rfl⟩
                go_wp2_with fail
                refine (wakes20_true _).mono ?_
                rintro e w' ⟨rfl, hu⟩
                have HU2 := Lib.hid (HU.out.trans hu (fun _ _ h => h))
                clear hu
                go_wp2_with fail
                go_ret
                exact ⟨rfl, HU2.out.below⟩
              · rw [hmj] at hq1 hr1 HM
                have hq2 : q = 1 := by simp at hq1; omega
                have hr2 : r = 1 := by simp at hr1; omega
                subst hq2
                subst hr2
                clear hq1 hr1 hmj
                go_wp2_with fail
                refine (HM.out _).mono ?_
                rintro e w' ⟨rfl, rfl⟩
                go_wp2_with fail
                refine (wakes20_true _).mono ?_
                rintro e w' ⟨rfl, hu⟩
                have HU2 := Lib.hid (HU.out.trans hu (fun _ _ h => h))
                clear hu
                go_wp2_with fail
                go_ret
                exact ⟨rfl, HU2.out.below⟩
            | succ m =>
              have hmL : m < L1.length := by rw [HL1.out]; omega
              have e1 : wr.cell? ⟨b1, o1 + m, none⟩ = some (.int .u8 L1[m]) := (hI.upd.cell (p := ⟨b1, o1 + m, none⟩) hbl1 id).trans (HC1.out m hmL)
              obtain ⟨x0, x1⟩ := HB1.out L1[m] (List.getElem_mem hmL)
              have HTB : Hid (∀ n ∈ T, 0 ≤ n ∧ n ≤ 255) := fun n hn => HB1.out n (hTL n hn)
              have HTL : Hid (∀ n ∈ T ++ [L1[m]], n ∈ L1) := fun n hn => by
                rcases List.mem_append.1 hn with h | h
                · exact hTL n h
                · rw [List.mem_singleton] at h; rw [h]; exact List.getElem_mem hmL
              have HDT : Hid (∀ n ∈ L1.drop m, n ∈ T ++ [L1[m]]) := fun n hn => by
                rw [List.drop_eq_getElem_cons hmL] at hn
                rcases List.mem_cons.1 hn with h | h
                · rw [h]; simp
                · exact List.mem_append_left _ (hDT n h)
              have HI := Lib.hid hI
              rw [show ((m + 1 : Nat) : Int) - 1 = (m : Int) from by omega]
              have hml : m < l1 := by omega
              have hml' : (m : Int) < (l1 : Int) := by omega
              clear hI hTL hDT
              generalize L1[m] = x at *
              clear hmL hm
              go_wp2_with fail
              refine (ord_e cb0 cb1 KE.out KDE.out HTB.out HI.out x x0 x1).mono ?_
              rintro e w5 ⟨⟨i1, i2⟩, is, rfl, hI5⟩
              have hr5 : r + (if is then 1 else 0) ≤ 1 := by obtain ⟨_, _, h⟩ := hI5.e; exact (ds_len h).2
              have HI5 := Lib.hid hI5
              have HR5 := Lib.hid hr5
              clear hI5 hr5
              unfold itemV
              cases is
              · go_wp2_with fail
                go_roundw
                case rel => exact ⟨m, r, _, by omega, hr, rfl, rfl, HTL.out, HDT.out, HI5.out.step ((Upd.refl _ _).alloc _)⟩
                case measure => simp [intOf]
              · go_wp2_with fail
                go_roundw
                case rel => exact ⟨m, r + 1, _, by omega, HR5.out, rfl, by go_num, HTL.out, HDT.out, HI5.out.step ((Upd.refl _ _).alloc _)⟩
                case measure => simp [intOf]

set_option maxRecDepth 100000 in
set_option maxHeartbeats 4000000 in
theorem order_zero (s : Int) (h0 : 0 ≤ s) (h1 : s ≤ 255) (A1 A2 : Option Addr) (l1 c1 l2 c2 : Nat) (w : World) (hn1 : l1 = 0) (hn2 : l2 ≤ 60) (hl : setLen (setWith s 0) ≠ 0) :
    Calls Try.prog 5 #[.int .u8 s, .slice A1 l1 c1, .slice A2 l2 c2] w fun e w' => e = .returned (.bool true) ∧ Below w.heap.size w w' := by
  have HO1 := Lib.hid (open_one h0 h1 hl 1 (by omega) (by omega))
  have HO9 := Lib.hid (open_one h0 h1 hl 9 (by omega) (by omega))
  obtain ⟨c, hc⟩ : ∃ c, setWith s 0 = c := ⟨_, rfl⟩
  have cb := setWith_bd s 0
  have HWT := Lib.hid (fun (wx : World) => hc ▸ with_any s 0 wx)
  rw [hc] at HO1 HO9 hl cb
  obtain ⟨cb0, cb1⟩ := cb
  have hlb : (setLen c == 0) = false := beq_eq_false_iff_ne.2 hl
  subst hn1
  have hi2 : (l2 : Int) ≤ 60 := by omega
  clear hc hl
  go_enter Try.func5, Try.ntmps5
  go_wp2_with fail
  refine (HWT.out _).mono ?_
  rintro e w' ⟨rfl, rfl⟩
  go_wp2_with fail
  refine (len_any _ _).mono ?_
  rintro e w' ⟨rfl, rfl⟩
  go_wp2_with fail
  refine (pnew_any w).mono ?_
  rintro e w1 ⟨pd, rfl, hu1, hd1⟩
  obtain ⟨bd, rfl⟩ := hd1.ptr
  have HU1 := Lib.hid hu1
  have HD1 := Lib.hid hd1
  clear hu1 hd1
  go_wp2_with fail
  refine (pnew_any w1).mono ?_
  rintro e w2 ⟨pe, rfl, hu2, hd2⟩
  obtain ⟨be, rfl⟩ := hd2.ptr
  have HU2 := Lib.hid hu2
  have HD2 := Lib.hid (HD1.out.upd hu2 (fun _ _ h => h))
  have HE2 := Lib.hid hd2
  clear hu2 hd2
  go_wp2_with fail
  refine (popen_any HD2.out 1 kV c (by omega) (by simp) (by simp)).mono ?_
  rw [HO1.out, show openM [] 0 1 kV c = [⟨1, kV, c, 0⟩] from by unfold openM; rw [HO1.out]; rfl, show openL 0 1 c = 1 from by unfold openL; rw [HO1.out]; rfl]
  rintro e w3 ⟨rfl, hu3, hd3⟩
  have HU3 := Lib.hid hu3
  have HD3 := Lib.hid hd3
  have HE3 := Lib.hid (HE2.out.upd hu3 (fun k hk h => by have h1 := hk.1; have h2 := h.2; omega))
  clear hu3 hd3
  go_wp2_with fail
  refine (popen_any HE3.out 9 kV c (by omega) (by simp) (by simp)).mono ?_
  rw [HO9.out, show openM [] 0 9 kV c = [⟨9, kV, c, 0⟩] from by unfold openM; rw [HO9.out]; rfl, show openL 0 9 c = 9 from by unfold openL; rw [HO9.out]; rfl]
  rintro e w4 ⟨rfl, hu4, he4⟩
  have HD4 := Lib.hid (HD3.out.upd hu4 (fun k hk h => by have h1 := hk.2; have h2 := h.1; omega))
  obtain ⟨FD, hFD⟩ : ∃ F : Nat → Prop, F = fun k => w.heap.size ≤ k ∧ k < w1.heap.size := ⟨_, rfl⟩
  obtain ⟨FE, hFE⟩ : ∃ F : Nat → Prop, F = fun k => w1.heap.size ≤ k ∧ k < w2.heap.size := ⟨_, rfl⟩
  have KD : Hid (∀ k, FD k → w.heap.size ≤ k) := by rw [hFD]; exact fun k h => h.1
  have KE : Hid (∀ k, FE k → w.heap.size ≤ k) := by rw [hFE]; exact fun k h => Nat.le_trans HU1.out.size h.1
  have KDE : Hid (∀ k, FD k → ¬ FE k) := by rw [hFD, hFE]; exact fun k h h2 => by have h1 := h.2; have h3 := h2.1; omega
  have KED : Hid (∀ k, FE k → ¬ FD k) := fun k h h2 => KDE.out k h2 h
  have HI4 : Hid (OrdI w FD FE (.pointer (some ⟨bd, 0, none⟩)) (.pointer (some ⟨be, 0, none⟩)) c [] [] 0 0 w4) := by
    refine ⟨((HU1.out.trans HU2.out (fun _ _ h => h)).trans HU3.out (fun k hk h => by have := h.1; omega)).trans hu4 (fun k hk h => by have h1 := h.1; have h2 := HU1.out.size; omega), ⟨_, ?_, ds_nil _ _ _⟩, ⟨_, ?_, ds_nil _ _ _⟩⟩
    · rw [hFD]; exact HD4.out
    · rw [hFE]; exact he4
  clear hFD hFE hu4 he4 HU1 HD1 HU2 HD2 HE2 HU3 HD3 HE3 HD4 HO1 HO9 HWT
  have HM := Lib.hid (fun (wx : World) => maj_some cb0 cb1 [] (by simp) ▸ major_any c (someS []) wx)
  have hmj : majF c (inT []) = false := by
    rcases ds_nil c kV 1 with ⟨_, h, _⟩ | ⟨h, _⟩
    · cases h
    · exact h
  rw [hmj, show someS [] = 0 from rfl] at HM
  have HU := Lib.hid HI4.out.upd
  clear hmj
  go_wp2_with fail
  refine wp_loop_rounds 1 ?_
  rw [rounds_succ]
  go_wp2_with fail
  refine wp_loop_rounds 1 ?_
  rw [rounds_succ]
  by_cases h2 : (0 : Int) < (l2 : Int)
  all_goals
    go_wp2_with fail
    refine wp_loop_rounds 1 ?_
    rw [rounds_succ]
    go_wp2_with fail
    refine (HM.out _).mono ?_
    rintro e w' ⟨rfl, rfl⟩
    go_wp2_with fail
    refine (wakes20_true _).mono ?_
    rintro e w' ⟨rfl, hu⟩
    have HU2 := Lib.hid (HU.out.trans hu (fun _ _ h => h))
    clear hu
    go_wp2_with fail
    go_ret
    exact ⟨rfl, HU2.out.below⟩

theorem proposeOrder_walk (s : Int) (A1 : Option Addr) (l1 c1 : Nat) (z1 : List Int) (A2 : Option Addr) (l2 c2 : Nat) (z2 : List Int) (w : World) (h0 : (Lit.int .u8 s).wf = true) (h1 : IsRow .u8 w A1 l1 c1 z1) (h2 : IsRow .u8 w A2 l2 c2 z2) :
    Calls Try.prog 5 #[.int .u8 s, .slice A1 l1 c1, .slice A2 l2 c2] w fun e w' => e = .returned (.bool true) ∧ Below w.heap.size w w' := by
  obtain ⟨s0, s1⟩ := wf_u8 h0
  obtain ⟨hs1, hl1, hw1⟩ := h1.sl
  obtain ⟨hs2, hl2, hw2⟩ := h2.sl
  by_cases hg : 60 < l1 ∨ 60 < l2
  · exact order_great s A1 A2 l1 c1 l2 c2 w hg
  by_cases hl : setLen (setWith s 0) = 0
  · exact order_none s A1 A2 l1 c1 l2 c2 w (by omega) (by omega) hl
  rcases Nat.eq_zero_or_pos l1 with hz | hz
  · exact order_zero s s0 s1 A1 A2 l1 c1 l2 c2 w hz (by omega) hl
  · exact order_main s s0 s1 A1 A2 l1 c1 l2 c2 (z1.take l1) (z2.take l2) w (by omega) (by omega) hz hl hs1 hs2 (fun x hx => wf_u8 (hw1 x hx)) (fun x hx => wf_u8 (hw2 x hx)) hl1 hl2

end Go.Proofs.Ytbnmildjamjjmaa
