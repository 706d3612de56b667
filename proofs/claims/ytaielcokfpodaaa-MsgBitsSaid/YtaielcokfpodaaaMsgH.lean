/-
  Layer 18, messages: may a part be. Conditions: lists of at most 10^6, texts of at most 10^9 bytes.
-/
import Derived.Test.YtaielcokfpodaaaMsgG
namespace Go.Proofs.Ytaielcokfpodaaa
open Go.RowKit

theorem mgood_any (n r : Int) (w : World) : Calls Try.prog 69 #[balV n r] w fun e w' => e = .returned (.bool (goodB n r)) ∧ Upd (fun _ => False) w w' := by
  have HC := Lib.hid (fun (wx : World) => bcheck_any n r wx)
  unfold balV at HC ⊢
  by_cases hn : n = 0
  · have hg : goodB n r = false := by unfold goodB; exact decide_eq_false (by omega)
    rw [hg]
    by_cases hr : r = 0
    · subst hn
      subst hr
      clear hg HC
      go_enter Try.func69, Try.ntmps69
      go_wp2_with fail
      go_ret
      exact ⟨rfl, (Upd.refl _ _).alloc _⟩
    · have he : balE n r = 2 := by unfold balE balB; rw [decide_eq_false (by omega)]; rfl
      rw [he] at HC
      subst hn
      have hr' : (r == 0) = false := beq_eq_false_iff_ne.2 hr
      clear hg he hr
      go_enter Try.func69, Try.ntmps69
      go_wp2_with fail
      refine (HC.out _).mono ?_
      rintro e w1 ⟨rfl, hu1⟩
      have HU := Lib.hid (((Upd.refl (fun _ => False) w).alloc (.cells #[.int .u64 0, .int .u8 r] 25)).trans hu1 (fun _ _ h => h))
      clear hu1
      go_wp2_with fail
      go_ret
      exact ⟨rfl, HU.out⟩
  · have hn' : (n == 0) = false := beq_eq_false_iff_ne.2 hn
    have hge : Hid (goodB n r = (balE n r == 0)) := by
      show _ = _
      unfold goodB balE balB
      by_cases hr : r < 7
      · rw [decide_eq_true (by omega), decide_eq_true (by omega)]; rfl
      · rw [decide_eq_false (by omega), decide_eq_false (by omega)]; rfl
    rw [hge.out]
    generalize balE n r = E at *
    clear hn hge
    go_enter Try.func69, Try.ntmps69
    go_wp2_with fail
    refine (HC.out _).mono ?_
    rintro e w1 ⟨rfl, hu1⟩
    have HU := Lib.hid (((Upd.refl (fun _ => False) w).alloc (.cells #[.int .u64 n, .int .u8 r] 25)).trans hu1 (fun _ _ h => h))
    clear hu1
    go_wp2_with fail
    go_ret
    exact ⟨rfl, HU.out⟩

theorem risesB_drop {last : Int} {l : List Int} {k : Nat} (hk : k < l.length) : risesB last (l.drop k) = (decide (last < l[k] ∧ l[k] ≤ 4611686018427387904) && risesB l[k] (l.drop (k + 1))) := by
  rw [List.drop_eq_getElem_cons hk, risesB]

set_option maxHeartbeats 2000000 in
theorem mrises_any {w : World} {G : Nat → Prop} {v : Value} {n : Nat} {l : List Int} (hs : Sl w G 1 v n (l.map (Value.int .u64))) (hn : n ≤ 1000000) :
    Calls Try.prog 71 #[v] w fun e w' => e = .returned (.bool (risesB 0 l)) ∧ w = w' := by
  have hlm : l.length = n := by simpa using hs.1
  obtain ⟨A, c, rfl, hnc, hcm⟩ := hs.shape
  have HS := Lib.hid hs
  have HL := Lib.hid hlm
  have hn' : (n : Int) ≤ 1000000 := by omega
  clear hs hlm hnc hcm
  obtain ⟨R, hR⟩ : ∃ R, risesB 0 l = R := ⟨_, rfl⟩
  have HR := Lib.hid hR
  rw [hR]
  clear hR
  go_enter Try.func71, Try.ntmps71
  go_wp2_with fail
  go_loop [3, 8] (fun x i => ∃ (k : Nat) (last : Int), k ≤ n ∧ i = .int .i64 k ∧ x = .int .u64 last ∧ R = risesB last (l.drop k)) (fun _ i => n - (intOf i).toNat)
  case atStart => exact ⟨0, 0, Nat.zero_le _, rfl, rfl, by rw [← HR.out]; rfl⟩
  case round =>
    obtain ⟨k, last, hk, rfl, rfl, hres⟩ := hrel
    by_cases hlt : k < n
    · have hkl : k < l.length := by rw [HL.out]; exact hlt
      obtain ⟨b, o, c', e, _, _, hcell⟩ := HS.out.at_ hlt
      simp only [Value.slice.injEq, true_and] at e
      obtain ⟨rfl, ec⟩ := e
      clear ec
      rw [List.getElem?_map, List.getElem?_eq_getElem hkl, Option.map_some] at hcell
      rw [risesB_drop hkl] at hres
      generalize l[k] = x at *
      by_cases h1 : x ≤ last
      · rw [decide_eq_false (by omega), Bool.false_and] at hres
        subst hres
        go_wp2_with fail
        go_ret
        exact ⟨rfl, rfl⟩
      by_cases h2 : 4611686018427387904 < x
      · rw [decide_eq_false (by omega), Bool.false_and] at hres
        subst hres
        go_wp2_with fail
        go_ret
        exact ⟨rfl, rfl⟩
      rw [decide_eq_true (by omega), Bool.true_and] at hres
      have HRE := Lib.hid hres
      clear hres
      go_wp2_with fail
      go_round
      case rel => exact ⟨k + 1, x, by omega, by go_num, rfl, HRE.out⟩
      case measure => simp [intOf]; omega
    · have hke : k = n := by omega
      subst hke
      rw [List.drop_of_length_le (by rw [HL.out]; exact Nat.le_refl _)] at hres
      have hres : R = true := hres
      subst hres
      go_wp2_with fail
      go_ret
      exact ⟨rfl, rfl⟩

set_option maxRecDepth 100000 in
set_option maxHeartbeats 2000000 in
theorem wh_may {w : World} (m : Ms) (hw : WfM m) (Av Ai : Option Addr) (nv cv ni ci : Nat) (hl : m.cmd.key.length ≤ 1000000000 ∧ m.cmd.old.length ≤ 1000000000 ∧ m.cmd.new.length ≤ 1000000000 ∧ m.text.length ≤ 1000000000) :
    Calls Try.prog 46 #[msV m (.slice Av nv cv) (.slice Ai ni ci)] w fun e w' => e = .returned (.bool (ptMay m .whole)) ∧ Upd (fun _ => False) w w' := by
  have HC := Lib.hid (fun (wx : World) => ccheck_any m.cmd hw.cmd.kind ⟨hl.1, hl.2.1, hl.2.2.1⟩ wx)
  obtain ⟨kind, bn, br, base, slot, node, val, votes, items, ⟨client, seq, ckind, key, old, new, cset⟩, code, text⟩ := m
  unfold msV msCells ptMay
  dsimp only at HC ⊢
  unfold cmdV cmdE at HC
  dsimp only at HC
  generalize cmdMay ⟨client, seq, ckind, key, old, new, cset⟩ = cm at *
  clear hw hl
  cases cm
  all_goals
    simp only [Bool.false_eq_true, if_false, if_true] at HC
    go_enter Try.func46, Try.ntmps46
    go_wp2_with fail
    refine (HC.out _).mono ?_
    rintro e w1 ⟨rfl, hu1⟩
    have HU := Lib.hid (((Upd.refl (fun _ => False) w).alloc (.cells #[.int .u8 kind, .int .u64 bn, .int .u8 br, .int .u64 base, .int .u64 slot, .int .u8 node, .string (strOfNums val), .slice Av nv cv, .slice Ai ni ci, .int .u8 client, .int .u32 seq, .int .u8 ckind, .string (strOfNums key), .string (strOfNums old), .string (strOfNums new), .int .u8 cset, .int .u8 code, .string (strOfNums text)] 34)).trans hu1 (fun _ _ h => h))
    clear hu1
    go_wp2_with fail
    go_ret
    exact ⟨rfl, HU.out⟩

set_option maxRecDepth 100000 in
set_option maxHeartbeats 2000000 in
theorem nm_may {w : World} (m : Ms) (hw : WfM m) (Av Ai : Option Addr) (nv cv ni ci : Nat) (hl : m.cmd.key.length ≤ 1000000000 ∧ m.cmd.old.length ≤ 1000000000 ∧ m.cmd.new.length ≤ 1000000000 ∧ m.text.length ≤ 1000000000) :
    Calls Try.prog 52 #[msV m (.slice Av nv cv) (.slice Ai ni ci)] w fun e w' => e = .returned (.bool (ptMay m .name)) ∧ Upd (fun _ => False) w w' := by
  obtain ⟨kind, bn, br, base, slot, node, val, votes, items, ⟨client, seq, ckind, key, old, new, cset⟩, code, text⟩ := m
  unfold msV msCells ptMay
  dsimp only at hl ⊢
  clear hw
  by_cases h1 : client < 4
  · rw [decide_eq_true h1, Bool.true_and]
    go_enter Try.func52, Try.ntmps52
    go_wp2_with fail
    go_ret
    exact ⟨rfl, (Upd.refl _ _).alloc _⟩
  · rw [decide_eq_false h1, Bool.false_and]
    have h1' : decide (client < 4) = false := decide_eq_false h1
    clear h1
    go_enter Try.func52, Try.ntmps52
    go_wp2_with fail
    go_ret
    exact ⟨rfl, (Upd.refl _ _).alloc _⟩

set_option maxRecDepth 100000 in
set_option maxHeartbeats 2000000 in
theorem rp_may {w : World} (m : Ms) (hw : WfM m) (Av Ai : Option Addr) (nv cv ni ci : Nat) (hl : m.cmd.key.length ≤ 1000000000 ∧ m.cmd.old.length ≤ 1000000000 ∧ m.cmd.new.length ≤ 1000000000 ∧ m.text.length ≤ 1000000000) :
    Calls Try.prog 58 #[msV m (.slice Av nv cv) (.slice Ai ni ci)] w fun e w' => e = .returned (.bool (ptMay m .reply)) ∧ Upd (fun _ => False) w w' := by
  obtain ⟨kind, bn, br, base, slot, node, val, votes, items, ⟨client, seq, ckind, key, old, new, cset⟩, code, text⟩ := m
  unfold msV msCells ptMay
  dsimp only at hl ⊢
  have hz : (strOfNums text).size = text.length := strOfNums_size text
  have hlt := hl.2.2.2
  rw [show decide (text.length ≤ 64) = decide ((text.length : Int) ≤ 64) from decide_eq_decide.2 (by omega)]
  have hl' : (text.length : Int) ≤ 1000000000 := by omega
  clear hl hlt
  clear hw
  by_cases h1 : code ≤ 3
  · rw [decide_eq_true h1, Bool.true_and]
    go_enter Try.func58, Try.ntmps58
    go_wp2_with fail
    go_ret
    exact ⟨rfl, (Upd.refl _ _).alloc _⟩
  · rw [decide_eq_false h1, Bool.false_and]
    have h1' : decide (code ≤ 3) = false := decide_eq_false h1
    clear h1
    go_enter Try.func58, Try.ntmps58
    go_wp2_with fail
    go_ret
    exact ⟨rfl, (Upd.refl _ _).alloc _⟩

set_option maxRecDepth 100000 in
set_option maxHeartbeats 2000000 in
theorem nd_may {w : World} (m : Ms) (hw : WfM m) (Av Ai : Option Addr) (nv cv ni ci : Nat) (hl : m.cmd.key.length ≤ 1000000000 ∧ m.cmd.old.length ≤ 1000000000 ∧ m.cmd.new.length ≤ 1000000000 ∧ m.text.length ≤ 1000000000) :
    Calls Try.prog 62 #[msV m (.slice Av nv cv) (.slice Ai ni ci)] w fun e w' => e = .returned (.bool (ptMay m .node)) ∧ Upd (fun _ => False) w w' := by
  obtain ⟨kind, bn, br, base, slot, node, val, votes, items, ⟨client, seq, ckind, key, old, new, cset⟩, code, text⟩ := m
  unfold msV msCells ptMay
  dsimp only at hl ⊢
  clear hw hl
  go_enter Try.func62, Try.ntmps62
  go_wp2_with fail
  go_ret
  exact ⟨rfl, (Upd.refl _ _).alloc _⟩

set_option maxRecDepth 100000 in
set_option maxHeartbeats 2000000 in
theorem by_may {w : World} (m : Ms) (hw : WfM m) (Av Ai : Option Addr) (nv cv ni ci : Nat) (hl : m.cmd.key.length ≤ 1000000000 ∧ m.cmd.old.length ≤ 1000000000 ∧ m.cmd.new.length ≤ 1000000000 ∧ m.text.length ≤ 1000000000) :
    Calls Try.prog 68 #[msV m (.slice Av nv cv) (.slice Ai ni ci)] w fun e w' => e = .returned (.bool (ptMay m .byy)) ∧ Upd (fun _ => False) w w' := by
  have HC := Lib.hid (fun (wx : World) => mgood_any m.bn m.br wx)
  obtain ⟨kind, bn, br, base, slot, node, val, votes, items, ⟨client, seq, ckind, key, old, new, cset⟩, code, text⟩ := m
  unfold msV msCells ptMay
  dsimp only at HC ⊢
  unfold balV at HC
  clear hw hl
  go_enter Try.func68, Try.ntmps68
  go_wp2_with fail
  refine (HC.out _).mono ?_
  rintro e w1 ⟨rfl, hu1⟩
  have HU := Lib.hid (((Upd.refl (fun _ => False) w).alloc (.cells #[.int .u8 kind, .int .u64 bn, .int .u8 br, .int .u64 base, .int .u64 slot, .int .u8 node, .string (strOfNums val), .slice Av nv cv, .slice Ai ni ci, .int .u8 client, .int .u32 seq, .int .u8 ckind, .string (strOfNums key), .string (strOfNums old), .string (strOfNums new), .int .u8 cset, .int .u8 code, .string (strOfNums text)] 34)).trans hu1 (fun _ _ h => h))
  clear hu1
  go_wp2_with fail
  go_ret
  exact ⟨rfl, HU.out⟩

set_option maxRecDepth 100000 in
set_option maxHeartbeats 2000000 in
theorem bs_may {w : World} (m : Ms) (hw : WfM m) (Av Ai : Option Addr) (nv cv ni ci : Nat) (hl : m.cmd.key.length ≤ 1000000000 ∧ m.cmd.old.length ≤ 1000000000 ∧ m.cmd.new.length ≤ 1000000000 ∧ m.text.length ≤ 1000000000) :
    Calls Try.prog 75 #[msV m (.slice Av nv cv) (.slice Ai ni ci)] w fun e w' => e = .returned (.bool (ptMay m .base)) ∧ Upd (fun _ => False) w w' := by
  obtain ⟨kind, bn, br, base, slot, node, val, votes, items, ⟨client, seq, ckind, key, old, new, cset⟩, code, text⟩ := m
  unfold msV msCells ptMay
  dsimp only at hl ⊢
  clear hw hl
  go_enter Try.func75, Try.ntmps75
  go_wp2_with fail
  go_ret
  exact ⟨rfl, (Upd.refl _ _).alloc _⟩

set_option maxRecDepth 100000 in
set_option maxHeartbeats 2000000 in
theorem up_may {w : World} (m : Ms) (hw : WfM m) (Av Ai : Option Addr) (nv cv ni ci : Nat) (hl : m.cmd.key.length ≤ 1000000000 ∧ m.cmd.old.length ≤ 1000000000 ∧ m.cmd.new.length ≤ 1000000000 ∧ m.text.length ≤ 1000000000) :
    Calls Try.prog 79 #[msV m (.slice Av nv cv) (.slice Ai ni ci)] w fun e w' => e = .returned (.bool (ptMay m .upto)) ∧ Upd (fun _ => False) w w' := by
  obtain ⟨kind, bn, br, base, slot, node, val, votes, items, ⟨client, seq, ckind, key, old, new, cset⟩, code, text⟩ := m
  unfold msV msCells ptMay
  dsimp only at hl ⊢
  clear hw hl
  go_enter Try.func79, Try.ntmps79
  go_wp2_with fail
  go_ret
  exact ⟨rfl, (Upd.refl _ _).alloc _⟩

set_option maxRecDepth 100000 in
set_option maxHeartbeats 2000000 in
theorem va_may {w : World} (m : Ms) (hw : WfM m) (Av Ai : Option Addr) (nv cv ni ci : Nat) (hl : m.cmd.key.length ≤ 1000000000 ∧ m.cmd.old.length ≤ 1000000000 ∧ m.cmd.new.length ≤ 1000000000 ∧ m.text.length ≤ 1000000000) :
    Calls Try.prog 90 #[msV m (.slice Av nv cv) (.slice Ai ni ci)] w fun e w' => e = .returned (.bool (ptMay m .value)) ∧ Upd (fun _ => False) w w' := by
  obtain ⟨kind, bn, br, base, slot, node, val, votes, items, ⟨client, seq, ckind, key, old, new, cset⟩, code, text⟩ := m
  unfold msV msCells ptMay
  dsimp only at hl ⊢
  clear hw hl
  go_enter Try.func90, Try.ntmps90
  go_wp2_with fail
  go_ret
  exact ⟨rfl, (Upd.refl _ _).alloc _⟩

set_option maxRecDepth 100000 in
set_option maxHeartbeats 2000000 in
theorem sl_may {w : World} (m : Ms) (hw : WfM m) (Av Ai : Option Addr) (nv cv ni ci : Nat) (hl : m.cmd.key.length ≤ 1000000000 ∧ m.cmd.old.length ≤ 1000000000 ∧ m.cmd.new.length ≤ 1000000000 ∧ m.text.length ≤ 1000000000) :
    Calls Try.prog 70 #[msV m (.slice Av nv cv) (.slice Ai ni ci)] w fun e w' => e = .returned (.bool (ptMay m .slot)) ∧ Upd (fun _ => False) w w' := by
  obtain ⟨kind, bn, br, base, slot, node, val, votes, items, ⟨client, seq, ckind, key, old, new, cset⟩, code, text⟩ := m
  unfold msV msCells ptMay
  dsimp only
  obtain ⟨R, hR⟩ : ∃ R, risesB 0 [slot] = R := ⟨_, rfl⟩
  have HR := Lib.hid hR
  rw [hR]
  clear hw hl hR
  go_enter Try.func70, Try.ntmps70
  go_upto_region 1 with fail
  have hb0 := Blk.new w 34 #[.int .u8 kind, .int .u64 bn, .int .u8 br, .int .u64 base, .int .u64 slot, .int .u8 node, .string (strOfNums val), .slice Av nv cv, .slice Ai ni ci, .int .u8 client, .int .u32 seq, .int .u8 ckind, .string (strOfNums key), .string (strOfNums old), .string (strOfNums new), .int .u8 cset, .int .u8 code, .string (strOfNums text)]
  have hw0 : Upd (fun _ => False) w (w.alloc (.cells #[.int .u8 kind, .int .u64 bn, .int .u8 br, .int .u64 base, .int .u64 slot, .int .u8 node, .string (strOfNums val), .slice Av nv cv, .slice Ai ni ci, .int .u8 client, .int .u32 seq, .int .u8 ckind, .string (strOfNums key), .string (strOfNums old), .string (strOfNums new), .int .u8 cset, .int .u8 code, .string (strOfNums text)] 34)) := (Upd.refl _ _).alloc _
  generalize w.alloc (.cells #[.int .u8 kind, .int .u64 bn, .int .u8 br, .int .u64 base, .int .u64 slot, .int .u8 node, .string (strOfNums val), .slice Av nv cv, .slice Ai ni ci, .int .u8 client, .int .u32 seq, .int .u8 ckind, .string (strOfNums key), .string (strOfNums old), .string (strOfNums new), .int .u8 cset, .int .u8 code, .string (strOfNums text)] 34) = w0 at *
  have l4 : w0.cell? ⟨w.heap.size, 4, none⟩ = some (.int .u64 slot) := hb0.cell 4
  have HW := Lib.hid hw0
  clear hb0 hw0
  go_wp2_with fail
  have hr := mrises_any (l := [slot]) (by exact Sl.one w0 (.int .u64 slot) 22) (by omega)
  rw [HR.out] at hr
  refine hr.mono ?_
  rintro e w1 ⟨rfl, rfl⟩
  clear hr
  go_wp2_with fail
  go_ret
  exact ⟨rfl, HW.out.alloc _⟩

theorem infoU64 : (Try.prog.info? 22).map (fun i => (i.zero, i.size, i.bytes)) = some (some (.int .u64 0), 1, 8) := by kernel_rfl
theorem vo41_any (v : Vt) (w : World) : Calls Try.prog 86 #[.agg #[.int .u64 v.slot, .int .u64 v.n, .int .u8 v.r, .string (strOfNums v.val)]] w fun e w' => e = .returned (.bool (!goodB v.n v.r)) ∧ Upd (fun _ => False) w w' := by
  have HC := Lib.hid (fun (wx : World) => mgood_any v.n v.r wx)
  obtain ⟨slot, n, r, val⟩ := v
  dsimp only at HC ⊢
  unfold balV at HC
  generalize goodB n r = q at *
  go_enter Try.func86, Try.ntmps86
  go_wp2_with fail
  refine (HC.out _).mono ?_
  rintro e w1 ⟨rfl, hu1⟩
  have HU := Lib.hid (((Upd.refl (fun _ => False) w).alloc (.cells #[.int .u64 slot, .int .u64 n, .int .u8 r, .string (strOfNums val)] 47)).trans hu1 (fun _ _ h => h))
  clear hu1
  go_wp2_with fail
  go_ret
  exact ⟨rfl, HU.out⟩

theorem all_take_succ {l : List Vt} {k : Nat} (hk : k < l.length) : (l.take (k + 1)).all (fun v => goodB v.n v.r) = ((l.take k).all (fun v => goodB v.n v.r) && goodB l[k].n l[k].r) := by
  rw [List.take_succ_eq_append_getElem hk, List.all_append]
  simp
theorem all_of_bad {l : List Vt} {k : Nat} (hk : k < l.length) (h : goodB l[k].n l[k].r = false) : l.all (fun v => goodB v.n v.r) = false := by
  rw [List.all_eq_false]
  exact ⟨l[k], List.getElem_mem hk, by rw [h]; simp⟩

set_option maxHeartbeats 2000000 in
theorem ifvotes_any {w : World} {G : Nat → Prop} {vv : Value} {L : List Vt} (hs : Sl w G 4 vv L.length (L.flatMap vtCells)) (hn : L.length ≤ 1000000) :
    Calls Try.prog 103 #[vv, .func (.func 86) #[] #[]] w fun e w' => (∃ q : Int, e = .returned (.int .i64 q) ∧ decide (0 ≤ q) = !L.all (fun v => goodB v.n v.r)) ∧ Upd (fun _ => False) w w' := by
  obtain ⟨A, c, rfl, hnc, hcm⟩ := hs.shape
  have HS := Lib.hid hs
  obtain ⟨N, hN⟩ : ∃ N, L.length = N := ⟨_, rfl⟩
  have HN := Lib.hid hN
  rw [hN] at HS hn ⊢
  have hn' : (N : Int) ≤ 1000000 := by omega
  clear hs hnc hcm hN
  go_enter Try.func103, Try.ntmps103
  go_wp2_with fail
  go_loopw [8] (fun i wr => ∃ k : Nat, k ≤ N ∧ i = .int .i64 k ∧ (L.take k).all (fun v => goodB v.n v.r) = true ∧ Upd (fun _ => False) w wr) (fun i _ => N - (intOf i).toNat)
  case atStart => exact ⟨0, Nat.zero_le _, rfl, rfl, Upd.refl _ _⟩
  case round =>
    obtain ⟨k, hk, rfl, hal, hu⟩ := hrel
    by_cases hlt : k < N
    · have hkl : k < L.length := by rw [HN.out]; exact hlt
      obtain ⟨b, o, rfl, hc⟩ := HS.out.row_ hu (fun _ _ h => h) hlt (vt_at L k hkl) rfl
      have e0 : wr.cell? ⟨b, o + k * 4, none⟩ = some (.int .u64 L[k].slot) := hc 0 _ rfl
      have e1 : wr.cell? ⟨b, o + k * 4 + 1, none⟩ = some (.int .u64 L[k].n) := hc 1 _ rfl
      have e2 : wr.cell? ⟨b, o + k * 4 + 2, none⟩ = some (.int .u8 L[k].r) := hc 2 _ rfl
      have e3 : wr.cell? ⟨b, o + k * 4 + 3, none⟩ = some (.string (strOfNums L[k].val)) := hc 3 _ rfl
      have HC := Lib.hid (vo41_any L[k] wr)
      have hsn := all_take_succ hkl
      rw [hal, Bool.true_and] at hsn
      have hbad := fun h => all_of_bad (l := L) hkl h
      generalize hgq : goodB L[k].n L[k].r = gq at *
      have HSN := Lib.hid hsn
      have HBAD := Lib.hid hbad
      have HU := Lib.hid hu
      generalize L[k].slot = x0 at *
      generalize L[k].n = x1 at *
      generalize L[k].r = x2 at *
      generalize L[k].val = x3 at *
      clear hc hsn hbad hal hu hgq
      go_wp2_with fail
      refine HC.out.mono ?_
      rintro e w1 ⟨rfl, hu1⟩
      have HU1 := Lib.hid (HU.out.trans hu1 (fun _ _ h => h))
      clear hu1
      cases gq
      · go_wp2_with fail
        go_ret
        exact ⟨⟨_, rfl, by rw [(by first | exact HBAD.out rfl | exact HBAD.out trivial : L.all (fun v => goodB v.n v.r) = false), decide_eq_true (by omega)]; rfl⟩, HU1.out⟩
      · go_wp2_with fail
        go_roundw
        case rel => exact ⟨k + 1, by omega, by go_num, HSN.out, HU1.out⟩
        case measure => simp [intOf]; omega
    · have hke : k = N := by omega
      subst hke
      rw [← HN.out, List.take_of_length_le (Nat.le_refl _)] at hal
      have HAL := Lib.hid hal
      have HU := Lib.hid hu
      clear hal hu
      go_wp2_with fail
      go_ret
      exact ⟨⟨_, rfl, by rw [HAL.out]; decide⟩, HU.out⟩
theorem cfvotes_any {w : World} {G : Nat → Prop} {vv : Value} {L : List Vt} (hs : Sl w G 4 vv L.length (L.flatMap vtCells)) (hn : L.length ≤ 1000000) :
    Calls Try.prog 85 #[vv, .func (.func 86) #[] #[]] w fun e w' => e = .returned (.bool (!L.all (fun v => goodB v.n v.r))) ∧ Upd (fun _ => False) w w' := by
  obtain ⟨A, c, rfl, _, _⟩ := hs.shape
  have HC := Lib.hid (ifvotes_any hs hn)
  obtain ⟨R, hR⟩ : ∃ R, (!L.all (fun v => goodB v.n v.r)) = R := ⟨_, rfl⟩
  rw [hR] at HC ⊢
  clear hs hR
  generalize L.length = N at *
  go_enter Try.func85, Try.ntmps85
  go_wp2_with fail
  refine HC.out.mono ?_
  rintro e w1 ⟨⟨q, rfl, hq⟩, hu⟩
  have HU := Lib.hid hu
  have HQ := Lib.hid hq
  clear hu hq
  go_wp2_with fail
  go_ret
  exact ⟨ret_bool HQ.out, HU.out⟩

set_option maxRecDepth 100000 in
set_option maxHeartbeats 4000000 in
theorem vo_may {w : World} (m : Ms) (Av Ai : Option Addr) (nv cv ni ci : Nat) {G : Nat → Prop} (hs : Sl w G 4 (.slice Av nv cv) m.votes.length (m.votes.flatMap vtCells)) (hn : m.votes.length ≤ 1000000) :
    Calls Try.prog 84 #[msV m (.slice Av nv cv) (.slice Ai ni ci)] w fun e w' => e = .returned (.bool (ptMay m .votes)) ∧ Upd (fun _ => False) w w' := by
  obtain ⟨i0, hi0, hz0, hz1, hz2⟩ := info_parts infoU64
  have hnn : nv = m.votes.length := by
    obtain ⟨_, _, e, _⟩ := hs.shape
    simp only [Value.slice.injEq] at e
    exact e.2.1
  have HCF := Lib.hid (fun (wx : World) (hu : Upd (fun _ => False) w wx) => cfvotes_any (hs.upd hu (fun _ _ h => h)) hn)
  have HS := Lib.hid hs
  have HRI := Lib.hid (fun (wx : World) (G : Nat → Prop) (v : Value) (hx : Sl wx G 1 v m.votes.length ((m.votes.map Vt.slot).map (Value.int .u64))) => mrises_any hx hn)
  obtain ⟨kind, bn, br, base, slot, node, val, votes, items, ⟨client, seq, ckind, key, old, new, cset⟩, code, text⟩ := m
  unfold msV msCells ptMay
  dsimp only at hnn HS HRI hn HCF ⊢
  generalize votes = L at *
  obtain ⟨N, hN⟩ : ∃ N, L.length = N := ⟨_, rfl⟩
  have HN := Lib.hid hN
  rw [hN] at hnn HS HRI hn
  subst hnn
  have hn' : (nv : Int) ≤ 1000000 := by omega
  obtain ⟨R1, hR1⟩ : ∃ R, risesB 0 (L.map Vt.slot) = R := ⟨_, rfl⟩
  rw [hR1] at HRI ⊢
  obtain ⟨R2, hR2⟩ : ∃ R, L.all (fun v => goodB v.n v.r) = R := ⟨_, rfl⟩
  rw [hR2] at HCF ⊢
  clear hR2
  clear hs hN hR1
  go_enter Try.func84, Try.ntmps84
  go_upto_region 1 with fail
  have hb0 := Blk.new w 34 #[.int .u8 kind, .int .u64 bn, .int .u8 br, .int .u64 base, .int .u64 slot, .int .u8 node, .string (strOfNums val), .slice Av nv cv, .slice Ai ni ci, .int .u8 client, .int .u32 seq, .int .u8 ckind, .string (strOfNums key), .string (strOfNums old), .string (strOfNums new), .int .u8 cset, .int .u8 code, .string (strOfNums text)]
  have hw0 : Upd (fun _ => False) w (w.alloc (.cells #[.int .u8 kind, .int .u64 bn, .int .u8 br, .int .u64 base, .int .u64 slot, .int .u8 node, .string (strOfNums val), .slice Av nv cv, .slice Ai ni ci, .int .u8 client, .int .u32 seq, .int .u8 ckind, .string (strOfNums key), .string (strOfNums old), .string (strOfNums new), .int .u8 cset, .int .u8 code, .string (strOfNums text)] 34)) := (Upd.refl _ _).alloc _
  generalize w.alloc (.cells #[.int .u8 kind, .int .u64 bn, .int .u8 br, .int .u64 base, .int .u64 slot, .int .u8 node, .string (strOfNums val), .slice Av nv cv, .slice Ai ni ci, .int .u8 client, .int .u32 seq, .int .u8 ckind, .string (strOfNums key), .string (strOfNums old), .string (strOfNums new), .int .u8 cset, .int .u8 code, .string (strOfNums text)] 34) = w0 at *
  have l7 : w0.cell? ⟨w.heap.size, 7, none⟩ = some (.slice Av nv cv) := hb0.cell 7
  have HW := Lib.hid hw0
  have HB0 := Lib.hid hb0
  clear hb0 hw0
  go_wp2_with fail
  clear l7
  go_loopw [3, 9] (fun v i wr => ∃ k : Nat, k ≤ nv ∧ i = .int .i64 k ∧ wr.ownsRow 0 22 1 v k (((L.take k).map Vt.slot).map (Value.int .u64)) ∧ Upd (fun _ => False) w0 wr ∧ (∀ j, v.ownBlock = some j → w0.heap.size ≤ j)) (fun _ i _ => nv - (intOf i).toNat)
  case atStart => exact ⟨0, Nat.zero_le _, rfl, by simpa using World.ownsRow_nil _ _ _ _, Upd.refl _ _, fun j hj => (no_own_nil j hj).elim⟩
  case round =>
    obtain ⟨k, hk, rfl, hown, hu, hv⟩ := hrel
    obtain ⟨A1, c1, rfl, _, _⟩ := row_form_ hown
    have HO := Lib.hid hown
    have HU := Lib.hid hu
    have HV := Lib.hid hv
    by_cases hlt : k < nv
    · have hkl : k < L.length := by rw [HN.out]; exact hlt
      obtain ⟨b, o, rfl, hc⟩ := HS.out.row_ (HW.out.trans hu (fun _ _ h => h)) (fun _ _ h => h) hlt (vt_at L k hkl) rfl
      have e0 : wr.cell? ⟨b, o + k * 4, none⟩ = some (.int .u64 L[k].slot) := hc 0 _ rfl
      have e1 : wr.cell? ⟨b, o + k * 4 + 1, none⟩ = some (.int .u64 L[k].n) := hc 1 _ rfl
      have e2 : wr.cell? ⟨b, o + k * 4 + 2, none⟩ = some (.int .u8 L[k].r) := hc 2 _ rfl
      have e3 : wr.cell? ⟨b, o + k * 4 + 3, none⟩ = some (.string (strOfNums L[k].val)) := hc 3 _ rfl
      have hsn : ((L.take (k + 1)).map Vt.slot).map (Value.int .u64) = ((L.take k).map Vt.slot).map (Value.int .u64) ++ [.int .u64 L[k].slot] := by rw [List.take_succ_eq_append_getElem hkl, List.map_append, List.map_append]; rfl
      generalize L[k] = x at *
      obtain ⟨sl, x1, x2, x3⟩ := x
      dsimp only at e0 e1 e2 e3 hsn
      have HSN := Lib.hid hsn
      have hzw := hu.size
      have hk6 : k ≤ 1000000 := by omega
      generalize ((L.take k).map Vt.slot).map (Value.int .u64) = xs at *
      clear hown hu hv hc hsn
      go_upto_region 5 with fail
      have hb5 := Blk.new wr 47 #[.int .u64 sl, .int .u64 x1, .int .u8 x2, .string (strOfNums x3)]
      have hw5 : Upd (fun _ => False) wr (wr.alloc (.cells #[.int .u64 sl, .int .u64 x1, .int .u8 x2, .string (strOfNums x3)] 47)) := (Upd.refl _ _).alloc _
      generalize wr.alloc (.cells #[.int .u64 sl, .int .u64 x1, .int .u8 x2, .string (strOfNums x3)] 47) = w5 at *
      have s0 : w5.cell? ⟨wr.heap.size, 0, none⟩ = some (.int .u64 sl) := hb5.cell 0
      have HW5 := Lib.hid hw5
      clear hb5 hw5 e0 e1 e2 e3
      go_wp2_with (first
        | (at_builtin
           go_must (refine wpList_append_sl _ rfl (.tmp 13) (.tmp 16) _ rfl 22 i0 (.int .u64 0) 1 8 Try.underlying94 hi0 hz0 hz1 hz2 rfl (by omega) (.slice A1 k c1) k xs rfl ((own_upd HO.out HW5.out (fun _ _ h => h)).alloc _) _ _ 1 [.int .u64 sl] rfl (Sl.one _ _ _) (by simp [Value.oneCell']) (by simp only [maxLen]; omega) (by omega) ?_)
           intro v6 w6 hown6 hg6 hat6))
      go_roundw
      case rel =>
        have hz5 := HW5.out.size
        refine ⟨k + 1, by omega, by go_num, by rw [HSN.out]; exact hown6, ((HU.out.trans HW5.out (fun _ _ h => h)).alloc _).grown hg6 (fun q hq => .inr (HV.out q hq)), fun q hq => ?_⟩
        rcases hat6 with h | h
        · rw [h] at hq; exact HV.out q hq
        · rw [h] at hq; have := Option.some.inj hq; simp only [World.size_alloc] at this; omega
      case measure => simp [intOf]; omega
    · have hke : k = nv := by omega
      subst hke
      rw [← HN.out, List.take_of_length_le (Nat.le_refl _), HN.out] at HO
      have HSL := Lib.hid (Sl.own HO.out)
      have HRR := Lib.hid (HRI.out wr _ _ HSL.out)
      have l7 : wr.cell? ⟨w.heap.size, 7, none⟩ = some (.slice Av k cv) := (HB0.out.upd hu id).cell 7
      have HUW := Lib.hid (HW.out.trans hu (fun _ _ h => h))
      have HCC := Lib.hid (HCF.out wr HUW.out)
      clear hown hu hv
      go_wp2_with fail
      refine HRR.out.mono ?_
      rintro e w7 ⟨rfl, rfl⟩
      cases R1
      · go_wp2_with fail
        go_ret
        exact ⟨rfl, HUW.out⟩
      · go_wp2_with fail
        refine HCC.out.mono ?_
        rintro e w8 ⟨rfl, hu8⟩
        have HU8 := Lib.hid (HUW.out.trans hu8 (fun _ _ h => h))
        clear hu8
        go_wp2_with fail
        go_ret
        exact ⟨ret_bool (by simp), HU8.out⟩

set_option maxRecDepth 100000 in
set_option maxHeartbeats 4000000 in
theorem it_may {w : World} (m : Ms) (Av Ai : Option Addr) (nv cv ni ci : Nat) {G : Nat → Prop} (hs : Sl w G 2 (.slice Ai ni ci) m.items.length (m.items.flatMap itCells)) (hn : m.items.length ≤ 1000000) :
    Calls Try.prog 95 #[msV m (.slice Av nv cv) (.slice Ai ni ci)] w fun e w' => e = .returned (.bool (ptMay m .items)) ∧ Upd (fun _ => False) w w' := by
  obtain ⟨i0, hi0, hz0, hz1, hz2⟩ := info_parts infoU64
  have hnn : ni = m.items.length := by
    obtain ⟨_, _, e, _⟩ := hs.shape
    simp only [Value.slice.injEq] at e
    exact e.2.1
  have HS := Lib.hid hs
  have HRI := Lib.hid (fun (wx : World) (G : Nat → Prop) (v : Value) (hx : Sl wx G 1 v m.items.length ((m.items.map It.slot).map (Value.int .u64))) => mrises_any hx hn)
  obtain ⟨kind, bn, br, base, slot, node, val, votes, items, ⟨client, seq, ckind, key, old, new, cset⟩, code, text⟩ := m
  unfold msV msCells ptMay
  dsimp only at hnn HS HRI hn ⊢
  generalize items = L at *
  obtain ⟨N, hN⟩ : ∃ N, L.length = N := ⟨_, rfl⟩
  have HN := Lib.hid hN
  rw [hN] at hnn HS HRI hn
  subst hnn
  have hn' : (ni : Int) ≤ 1000000 := by omega
  obtain ⟨R1, hR1⟩ : ∃ R, risesB 0 (L.map It.slot) = R := ⟨_, rfl⟩
  rw [hR1] at HRI ⊢
  rw [hN]
  obtain ⟨R3, hR3⟩ : ∃ R, (decide (0 < ni) && R1) = R := ⟨_, rfl⟩
  have HR3 := Lib.hid hR3
  rw [hR3]
  clear hR3
  clear hs hN hR1
  go_enter Try.func95, Try.ntmps95
  go_upto_region 1 with fail
  have hb0 := Blk.new w 34 #[.int .u8 kind, .int .u64 bn, .int .u8 br, .int .u64 base, .int .u64 slot, .int .u8 node, .string (strOfNums val), .slice Av nv cv, .slice Ai ni ci, .int .u8 client, .int .u32 seq, .int .u8 ckind, .string (strOfNums key), .string (strOfNums old), .string (strOfNums new), .int .u8 cset, .int .u8 code, .string (strOfNums text)]
  have hw0 : Upd (fun _ => False) w (w.alloc (.cells #[.int .u8 kind, .int .u64 bn, .int .u8 br, .int .u64 base, .int .u64 slot, .int .u8 node, .string (strOfNums val), .slice Av nv cv, .slice Ai ni ci, .int .u8 client, .int .u32 seq, .int .u8 ckind, .string (strOfNums key), .string (strOfNums old), .string (strOfNums new), .int .u8 cset, .int .u8 code, .string (strOfNums text)] 34)) := (Upd.refl _ _).alloc _
  generalize w.alloc (.cells #[.int .u8 kind, .int .u64 bn, .int .u8 br, .int .u64 base, .int .u64 slot, .int .u8 node, .string (strOfNums val), .slice Av nv cv, .slice Ai ni ci, .int .u8 client, .int .u32 seq, .int .u8 ckind, .string (strOfNums key), .string (strOfNums old), .string (strOfNums new), .int .u8 cset, .int .u8 code, .string (strOfNums text)] 34) = w0 at *
  have l8 : w0.cell? ⟨w.heap.size, 8, none⟩ = some (.slice Ai ni ci) := hb0.cell 8
  have HW := Lib.hid hw0
  have HB0 := Lib.hid hb0
  clear hb0 hw0
  go_wp2_with fail
  clear l8
  go_loopw [3, 9] (fun v i wr => ∃ k : Nat, k ≤ ni ∧ i = .int .i64 k ∧ wr.ownsRow 0 22 1 v k (((L.take k).map It.slot).map (Value.int .u64)) ∧ Upd (fun _ => False) w0 wr ∧ (∀ j, v.ownBlock = some j → w0.heap.size ≤ j)) (fun _ i _ => ni - (intOf i).toNat)
  case atStart => exact ⟨0, Nat.zero_le _, rfl, by simpa using World.ownsRow_nil _ _ _ _, Upd.refl _ _, fun j hj => (no_own_nil j hj).elim⟩
  case round =>
    obtain ⟨k, hk, rfl, hown, hu, hv⟩ := hrel
    obtain ⟨A1, c1, rfl, _, _⟩ := row_form_ hown
    have HO := Lib.hid hown
    have HU := Lib.hid hu
    have HV := Lib.hid hv
    by_cases hlt : k < ni
    · have hkl : k < L.length := by rw [HN.out]; exact hlt
      obtain ⟨b, o, rfl, hc⟩ := HS.out.row_ (HW.out.trans hu (fun _ _ h => h)) (fun _ _ h => h) hlt (it_at L k hkl) rfl
      have e0 : wr.cell? ⟨b, o + k * 2, none⟩ = some (.int .u64 L[k].slot) := hc 0 _ rfl
      have e1 : wr.cell? ⟨b, o + k * 2 + 1, none⟩ = some (.string (strOfNums L[k].val)) := hc 1 _ rfl
      have hsn : ((L.take (k + 1)).map It.slot).map (Value.int .u64) = ((L.take k).map It.slot).map (Value.int .u64) ++ [.int .u64 L[k].slot] := by rw [List.take_succ_eq_append_getElem hkl, List.map_append, List.map_append]; rfl
      generalize L[k] = x at *
      obtain ⟨sl, x3⟩ := x
      dsimp only at e0 e1 hsn
      have HSN := Lib.hid hsn
      have hzw := hu.size
      have hk6 : k ≤ 1000000 := by omega
      generalize ((L.take k).map It.slot).map (Value.int .u64) = xs at *
      clear hown hu hv hc hsn
      go_upto_region 5 with fail
      have hb5 := Blk.new wr 49 #[.int .u64 sl, .string (strOfNums x3)]
      have hw5 : Upd (fun _ => False) wr (wr.alloc (.cells #[.int .u64 sl, .string (strOfNums x3)] 49)) := (Upd.refl _ _).alloc _
      generalize wr.alloc (.cells #[.int .u64 sl, .string (strOfNums x3)] 49) = w5 at *
      have s0 : w5.cell? ⟨wr.heap.size, 0, none⟩ = some (.int .u64 sl) := hb5.cell 0
      have HW5 := Lib.hid hw5
      clear hb5 hw5 e0 e1
      go_wp2_with (first
        | (at_builtin
           go_must (refine wpList_append_sl _ rfl (.tmp 13) (.tmp 16) _ rfl 22 i0 (.int .u64 0) 1 8 Try.underlying94 hi0 hz0 hz1 hz2 rfl (by omega) (.slice A1 k c1) k xs rfl ((own_upd HO.out HW5.out (fun _ _ h => h)).alloc _) _ _ 1 [.int .u64 sl] rfl (Sl.one _ _ _) (by simp [Value.oneCell']) (by simp only [maxLen]; omega) (by omega) ?_)
           intro v6 w6 hown6 hg6 hat6))
      go_roundw
      case rel =>
        have hz5 := HW5.out.size
        refine ⟨k + 1, by omega, by go_num, by rw [HSN.out]; exact hown6, ((HU.out.trans HW5.out (fun _ _ h => h)).alloc _).grown hg6 (fun q hq => .inr (HV.out q hq)), fun q hq => ?_⟩
        rcases hat6 with h | h
        · rw [h] at hq; exact HV.out q hq
        · rw [h] at hq; have := Option.some.inj hq; simp only [World.size_alloc] at this; omega
      case measure => simp [intOf]; omega
    · have hke : k = ni := by omega
      subst hke
      rw [← HN.out, List.take_of_length_le (Nat.le_refl _), HN.out] at HO
      have HSL := Lib.hid (Sl.own HO.out)
      have HRR := Lib.hid (HRI.out wr _ _ HSL.out)
      have l8 : wr.cell? ⟨w.heap.size, 8, none⟩ = some (.slice Ai k ci) := (HB0.out.upd hu id).cell 8
      have HUW := Lib.hid (HW.out.trans hu (fun _ _ h => h))
      clear hown hu hv
      by_cases hk0 : 0 < k
      · have HK0 := Lib.hid hk0
        go_wp2_with fail
        refine HRR.out.mono ?_
        rintro e w7 ⟨rfl, rfl⟩
        go_wp2_with fail
        go_ret
        exact ⟨ret_bool (by rw [← HR3.out, decide_eq_true HK0.out]; rfl), HUW.out⟩
      · have hkd : decide ((0 : Int) < (k : Int)) = false := decide_eq_false (by omega)
        have HK0 := Lib.hid hk0
        clear hk0
        go_wp2_with fail
        go_ret
        exact ⟨ret_bool (by rw [← HR3.out, decide_eq_false HK0.out]; rfl), HUW.out⟩

end Go.Proofs.Ytaielcokfpodaaa
