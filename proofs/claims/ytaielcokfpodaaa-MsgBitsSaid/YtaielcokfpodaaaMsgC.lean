/-
  Layer 18, messages: what puts the parts that have no lists. Conditions: a row of at most 10^8 bytes.
-/
import Derived.Test.YtaielcokfpodaaaMsgB
namespace Go.Proofs.Ytaielcokfpodaaa
open Go.RowKit

def msCells (m : Ms) (vv vi : Value) : Array Value := #[.int .u8 m.kind, .int .u64 m.bn, .int .u8 m.br, .int .u64 m.base, .int .u64 m.slot, .int .u8 m.node, .string (strOfNums m.val), vv, vi, .int .u8 m.cmd.client, .int .u32 m.cmd.seq, .int .u8 m.cmd.kind, .string (strOfNums m.cmd.key), .string (strOfNums m.cmd.old), .string (strOfNums m.cmd.new), .int .u8 m.cmd.set, .int .u8 m.code, .string (strOfNums m.text)]
def msV (m : Ms) (vv vi : Value) : Value := .agg (msCells m vv vi)

set_option maxRecDepth 100000 in
set_option maxHeartbeats 600000 in
theorem wh_put {w : World} {v : Value} {l : List Int} (h : Ow w v l) (m : Ms) (hw : WfM m) (Av Ai : Option Addr) (nv cv ni ci : Nat) (hl : l.length ≤ 100000000) (hs : m.cmd.key.length ≤ 100000000 ∧ m.cmd.old.length ≤ 100000000 ∧ m.cmd.new.length ≤ 100000000 ∧ m.text.length ≤ 100000000) :
    Calls Try.prog 41 #[v, msV m (.slice Av nv cv) (.slice Ai ni ci)] w fun e w' => ∃ v', e = .returned v' ∧ OwTo w v (l ++ ptBy m .whole) w' v' := by
  have HO := Lib.hid h
  have HC := Lib.hid (fun (wx : World) (hx : Ow wx v l) => cput_any hx m.cmd hw.cmd hl ⟨hs.1, hs.2.1, hs.2.2.1⟩)
  obtain ⟨A, c, rfl, hnc, hcm⟩ := h.shape
  obtain ⟨kind, bn, br, base, slot, node, val, votes, items, ⟨client, seq, ckind, key, old, new, cset⟩, code, text⟩ := m
  unfold msV msCells
  dsimp only at HC ⊢
  unfold cmdV at HC
  dsimp only at HC
  clear h hw hs
  go_enter Try.func41, Try.ntmps41
  go_wp2_with fail
  have ho := (HO.out.still ((Upd.refl _ w).alloc (.cells #[.int .u8 kind, .int .u64 bn, .int .u8 br, .int .u64 base, .int .u64 slot, .int .u8 node, .string (strOfNums val), .slice Av nv cv, .slice Ai ni ci, .int .u8 client, .int .u32 seq, .int .u8 ckind, .string (strOfNums key), .string (strOfNums old), .string (strOfNums new), .int .u8 cset, .int .u8 code, .string (strOfNums text)] 34))).1
  refine (HC.out _ ho).mono ?_
  rintro e w1 ⟨v1, rfl, ho1⟩
  have HO1 := Lib.hid ((HO.out.still ((Upd.refl _ w).alloc (.cells #[.int .u8 kind, .int .u64 bn, .int .u8 br, .int .u64 base, .int .u64 slot, .int .u8 node, .string (strOfNums val), .slice Av nv cv, .slice Ai ni ci, .int .u8 client, .int .u32 seq, .int .u8 ckind, .string (strOfNums key), .string (strOfNums old), .string (strOfNums new), .int .u8 cset, .int .u8 code, .string (strOfNums text)] 34))).trans ho1)
  clear ho ho1
  go_wp2_with fail
  go_ret
  exact ⟨_, rfl, HO1.out⟩

set_option maxRecDepth 100000 in
set_option maxHeartbeats 600000 in
theorem by_put {w : World} {v : Value} {l : List Int} (h : Ow w v l) (m : Ms) (hw : WfM m) (Av Ai : Option Addr) (nv cv ni ci : Nat) (hl : l.length ≤ 100000000) (hs : m.cmd.key.length ≤ 100000000 ∧ m.cmd.old.length ≤ 100000000 ∧ m.cmd.new.length ≤ 100000000 ∧ m.text.length ≤ 100000000) :
    Calls Try.prog 63 #[v, msV m (.slice Av nv cv) (.slice Ai ni ci)] w fun e w' => ∃ v', e = .returned v' ∧ OwTo w v (l ++ ptBy m .byy) w' v' := by
  have HO := Lib.hid h
  have HC : Hid (∀ (wx : World) (hx : Ow wx v l), Calls Try.prog 64 #[v, .agg #[.int .u64 m.bn, .int .u8 m.br]] wx fun e w' => ∃ v', e = .returned v' ∧ OwTo wx v (l ++ balBy m.bn m.br) w' v') := fun wx hx => by
    obtain ⟨n, hn⟩ : ∃ n : Nat, m.bn = (n : Int) := ⟨m.bn.toNat, by have := hw.bn.1; omega⟩
    have := hw.bn.2
    have hp := bput_any hx n (by omega) m.br hl
    unfold balV at hp
    unfold balBy
    rw [hn, Int.toNat_natCast, ← List.append_assoc]
    exact hp
  obtain ⟨A, c, rfl, hnc, hcm⟩ := h.shape
  obtain ⟨kind, bn, br, base, slot, node, val, votes, items, ⟨client, seq, ckind, key, old, new, cset⟩, code, text⟩ := m
  unfold msV msCells
  dsimp only at HC ⊢
  clear h hw hs
  go_enter Try.func63, Try.ntmps63
  go_wp2_with fail
  have ho := (HO.out.still ((Upd.refl _ w).alloc (.cells #[.int .u8 kind, .int .u64 bn, .int .u8 br, .int .u64 base, .int .u64 slot, .int .u8 node, .string (strOfNums val), .slice Av nv cv, .slice Ai ni ci, .int .u8 client, .int .u32 seq, .int .u8 ckind, .string (strOfNums key), .string (strOfNums old), .string (strOfNums new), .int .u8 cset, .int .u8 code, .string (strOfNums text)] 34))).1
  refine (HC.out _ ho).mono ?_
  rintro e w1 ⟨v1, rfl, ho1⟩
  have HO1 := Lib.hid ((HO.out.still ((Upd.refl _ w).alloc (.cells #[.int .u8 kind, .int .u64 bn, .int .u8 br, .int .u64 base, .int .u64 slot, .int .u8 node, .string (strOfNums val), .slice Av nv cv, .slice Ai ni ci, .int .u8 client, .int .u32 seq, .int .u8 ckind, .string (strOfNums key), .string (strOfNums old), .string (strOfNums new), .int .u8 cset, .int .u8 code, .string (strOfNums text)] 34))).trans ho1)
  clear ho ho1
  go_wp2_with fail
  go_ret
  exact ⟨_, rfl, HO1.out⟩

set_option maxRecDepth 100000 in
set_option maxHeartbeats 600000 in
theorem bs_put {w : World} {v : Value} {l : List Int} (h : Ow w v l) (m : Ms) (hw : WfM m) (Av Ai : Option Addr) (nv cv ni ci : Nat) (hl : l.length ≤ 100000000) (hs : m.cmd.key.length ≤ 100000000 ∧ m.cmd.old.length ≤ 100000000 ∧ m.cmd.new.length ≤ 100000000 ∧ m.text.length ≤ 100000000) :
    Calls Try.prog 72 #[v, msV m (.slice Av nv cv) (.slice Ai ni ci)] w fun e w' => ∃ v', e = .returned v' ∧ OwTo w v (l ++ ptBy m .base) w' v' := by
  have HO := Lib.hid h
  have HC : Hid (∀ (wx : World) (hx : Ow wx v l), Calls Try.prog 32 #[v, .int .u64 m.base] wx fun e w' => ∃ v', e = .returned v' ∧ OwTo wx v (l ++ numE m.base.toNat) w' v') := fun wx hx => by
    obtain ⟨n, hn⟩ : ∃ n : Nat, m.base = (n : Int) := ⟨m.base.toNat, by have := hw.base.1; omega⟩
    have := hw.base.2
    have hp := wnum_any hx n (by omega) (by omega)
    rw [hn, Int.toNat_natCast]
    exact hp
  obtain ⟨A, c, rfl, hnc, hcm⟩ := h.shape
  obtain ⟨kind, bn, br, base, slot, node, val, votes, items, ⟨client, seq, ckind, key, old, new, cset⟩, code, text⟩ := m
  unfold msV msCells
  dsimp only at HC ⊢
  clear h hw hs
  go_enter Try.func72, Try.ntmps72
  go_wp2_with fail
  have ho := (HO.out.still ((Upd.refl _ w).alloc (.cells #[.int .u8 kind, .int .u64 bn, .int .u8 br, .int .u64 base, .int .u64 slot, .int .u8 node, .string (strOfNums val), .slice Av nv cv, .slice Ai ni ci, .int .u8 client, .int .u32 seq, .int .u8 ckind, .string (strOfNums key), .string (strOfNums old), .string (strOfNums new), .int .u8 cset, .int .u8 code, .string (strOfNums text)] 34))).1
  refine (HC.out _ ho).mono ?_
  rintro e w1 ⟨v1, rfl, ho1⟩
  have HO1 := Lib.hid ((HO.out.still ((Upd.refl _ w).alloc (.cells #[.int .u8 kind, .int .u64 bn, .int .u8 br, .int .u64 base, .int .u64 slot, .int .u8 node, .string (strOfNums val), .slice Av nv cv, .slice Ai ni ci, .int .u8 client, .int .u32 seq, .int .u8 ckind, .string (strOfNums key), .string (strOfNums old), .string (strOfNums new), .int .u8 cset, .int .u8 code, .string (strOfNums text)] 34))).trans ho1)
  clear ho ho1
  go_wp2_with fail
  go_ret
  exact ⟨_, rfl, HO1.out⟩

set_option maxRecDepth 100000 in
set_option maxHeartbeats 600000 in
theorem up_put {w : World} {v : Value} {l : List Int} (h : Ow w v l) (m : Ms) (hw : WfM m) (Av Ai : Option Addr) (nv cv ni ci : Nat) (hl : l.length ≤ 100000000) (hs : m.cmd.key.length ≤ 100000000 ∧ m.cmd.old.length ≤ 100000000 ∧ m.cmd.new.length ≤ 100000000 ∧ m.text.length ≤ 100000000) :
    Calls Try.prog 76 #[v, msV m (.slice Av nv cv) (.slice Ai ni ci)] w fun e w' => ∃ v', e = .returned v' ∧ OwTo w v (l ++ ptBy m .upto) w' v' := by
  have HO := Lib.hid h
  have HC : Hid (∀ (wx : World) (hx : Ow wx v l), Calls Try.prog 32 #[v, .int .u64 m.slot] wx fun e w' => ∃ v', e = .returned v' ∧ OwTo wx v (l ++ numE m.slot.toNat) w' v') := fun wx hx => by
    obtain ⟨n, hn⟩ : ∃ n : Nat, m.slot = (n : Int) := ⟨m.slot.toNat, by have := hw.slot.1; omega⟩
    have := hw.slot.2
    have hp := wnum_any hx n (by omega) (by omega)
    rw [hn, Int.toNat_natCast]
    exact hp
  obtain ⟨A, c, rfl, hnc, hcm⟩ := h.shape
  obtain ⟨kind, bn, br, base, slot, node, val, votes, items, ⟨client, seq, ckind, key, old, new, cset⟩, code, text⟩ := m
  unfold msV msCells
  dsimp only at HC ⊢
  clear h hw hs
  go_enter Try.func76, Try.ntmps76
  go_wp2_with fail
  have ho := (HO.out.still ((Upd.refl _ w).alloc (.cells #[.int .u8 kind, .int .u64 bn, .int .u8 br, .int .u64 base, .int .u64 slot, .int .u8 node, .string (strOfNums val), .slice Av nv cv, .slice Ai ni ci, .int .u8 client, .int .u32 seq, .int .u8 ckind, .string (strOfNums key), .string (strOfNums old), .string (strOfNums new), .int .u8 cset, .int .u8 code, .string (strOfNums text)] 34))).1
  refine (HC.out _ ho).mono ?_
  rintro e w1 ⟨v1, rfl, ho1⟩
  have HO1 := Lib.hid ((HO.out.still ((Upd.refl _ w).alloc (.cells #[.int .u8 kind, .int .u64 bn, .int .u8 br, .int .u64 base, .int .u64 slot, .int .u8 node, .string (strOfNums val), .slice Av nv cv, .slice Ai ni ci, .int .u8 client, .int .u32 seq, .int .u8 ckind, .string (strOfNums key), .string (strOfNums old), .string (strOfNums new), .int .u8 cset, .int .u8 code, .string (strOfNums text)] 34))).trans ho1)
  clear ho ho1
  go_wp2_with fail
  go_ret
  exact ⟨_, rfl, HO1.out⟩

set_option maxRecDepth 100000 in
set_option maxHeartbeats 600000 in
theorem va_put {w : World} {v : Value} {l : List Int} (h : Ow w v l) (m : Ms) (hw : WfM m) (Av Ai : Option Addr) (nv cv ni ci : Nat) (hl : l.length ≤ 100000000) (hs : m.cmd.key.length ≤ 100000000 ∧ m.cmd.old.length ≤ 100000000 ∧ m.cmd.new.length ≤ 100000000 ∧ m.text.length ≤ 100000000) :
    Calls Try.prog 87 #[v, msV m (.slice Av nv cv) (.slice Ai ni ci)] w fun e w' => ∃ v', e = .returned v' ∧ OwTo w v (l ++ ptBy m .value) w' v' := by
  have HO := Lib.hid h
  have HC := Lib.hid (fun (wx : World) (hx : Ow wx v l) => wstr_of hx m.val hw.val.1 (by have := hw.val.2; omega) (by omega))
  obtain ⟨A, c, rfl, hnc, hcm⟩ := h.shape
  obtain ⟨kind, bn, br, base, slot, node, val, votes, items, ⟨client, seq, ckind, key, old, new, cset⟩, code, text⟩ := m
  unfold msV msCells
  dsimp only at HC ⊢
  clear h hw hs
  go_enter Try.func87, Try.ntmps87
  go_wp2_with fail
  have ho := (HO.out.still ((Upd.refl _ w).alloc (.cells #[.int .u8 kind, .int .u64 bn, .int .u8 br, .int .u64 base, .int .u64 slot, .int .u8 node, .string (strOfNums val), .slice Av nv cv, .slice Ai ni ci, .int .u8 client, .int .u32 seq, .int .u8 ckind, .string (strOfNums key), .string (strOfNums old), .string (strOfNums new), .int .u8 cset, .int .u8 code, .string (strOfNums text)] 34))).1
  refine (HC.out _ ho).mono ?_
  rintro e w1 ⟨v1, rfl, ho1⟩
  have HO1 := Lib.hid ((HO.out.still ((Upd.refl _ w).alloc (.cells #[.int .u8 kind, .int .u64 bn, .int .u8 br, .int .u64 base, .int .u64 slot, .int .u8 node, .string (strOfNums val), .slice Av nv cv, .slice Ai ni ci, .int .u8 client, .int .u32 seq, .int .u8 ckind, .string (strOfNums key), .string (strOfNums old), .string (strOfNums new), .int .u8 cset, .int .u8 code, .string (strOfNums text)] 34))).trans ho1)
  clear ho ho1
  go_wp2_with fail
  go_ret
  exact ⟨_, rfl, HO1.out⟩

set_option maxRecDepth 100000 in
set_option maxHeartbeats 600000 in
theorem nd_put {w : World} {v : Value} {l : List Int} (h : Ow w v l) (m : Ms) (hw : WfM m) (Av Ai : Option Addr) (nv cv ni ci : Nat) (hl : l.length ≤ 100000000) (hs : m.cmd.key.length ≤ 100000000 ∧ m.cmd.old.length ≤ 100000000 ∧ m.cmd.new.length ≤ 100000000 ∧ m.text.length ≤ 100000000) :
    Calls Try.prog 59 #[v, msV m (.slice Av nv cv) (.slice Ai ni ci)] w fun e w' => ∃ v', e = .returned v' ∧ OwTo w v (l ++ ptBy m .node) w' v' := by
  have HO := Lib.hid h
  obtain ⟨i0, hi0, hz0, hz1, hz2⟩ := info_parts infoB
  obtain ⟨A, c, rfl, hnc, hcm⟩ := h.shape
  obtain ⟨kind, bn, br, base, slot, node, val, votes, items, ⟨client, seq, ckind, key, old, new, cset⟩, code, text⟩ := m
  unfold msV msCells
  dsimp only
  clear h hw hs
  go_enter Try.func59, Try.ntmps59
  go_upto_region 1 with fail
  have hb0 := Blk.new w 34 #[.int .u8 kind, .int .u64 bn, .int .u8 br, .int .u64 base, .int .u64 slot, .int .u8 node, .string (strOfNums val), .slice Av nv cv, .slice Ai ni ci, .int .u8 client, .int .u32 seq, .int .u8 ckind, .string (strOfNums key), .string (strOfNums old), .string (strOfNums new), .int .u8 cset, .int .u8 code, .string (strOfNums text)]
  have hw0 : Upd (fun _ => False) w (w.alloc (.cells #[.int .u8 kind, .int .u64 bn, .int .u8 br, .int .u64 base, .int .u64 slot, .int .u8 node, .string (strOfNums val), .slice Av nv cv, .slice Ai ni ci, .int .u8 client, .int .u32 seq, .int .u8 ckind, .string (strOfNums key), .string (strOfNums old), .string (strOfNums new), .int .u8 cset, .int .u8 code, .string (strOfNums text)] 34)) := (Upd.refl _ _).alloc _
  generalize w.alloc (.cells #[.int .u8 kind, .int .u64 bn, .int .u8 br, .int .u64 base, .int .u64 slot, .int .u8 node, .string (strOfNums val), .slice Av nv cv, .slice Ai ni ci, .int .u8 client, .int .u32 seq, .int .u8 ckind, .string (strOfNums key), .string (strOfNums old), .string (strOfNums new), .int .u8 cset, .int .u8 code, .string (strOfNums text)] 34) = w0 at *
  have HU0 := Lib.hid (HO.out.still hw0)
  have zz0 : w0.cell? ⟨w.heap.size, 5, none⟩ = some (.int .u8 node) := hb0.cell 5
  clear hb0 hw0
  go_wp2_with (first
    | (at_builtin
       go_must (refine wpList_append_sl _ rfl (.tmp 5) (.tmp 8) _ rfl 5 i0 (.int .u8 0) 1 1 Try.underlying23 hi0 hz0 hz1 hz2 rfl (by omega) (.slice A l.length c) l.length (l.map (Value.int .u8)) rfl (HU0.out.1.still ((Upd.refl _ _).alloc _)).1 _ _ 1 [.int .u8 node] rfl (Sl.one _ _ _) (by simp [Value.oneCell']) (by simp only [maxLen]; omega) (by omega) ?_)
       intro v1 w1 hown1 hg1 hat1))
  go_ret
  exact ⟨_, rfl, OwTo.app (m := [node]) (HU0.out.trans (HU0.out.1.still ((Upd.refl _ _).alloc _))) hown1 hg1 hat1⟩

set_option maxRecDepth 100000 in
set_option maxHeartbeats 600000 in
theorem nm_put {w : World} {v : Value} {l : List Int} (h : Ow w v l) (m : Ms) (hw : WfM m) (Av Ai : Option Addr) (nv cv ni ci : Nat) (hl : l.length ≤ 100000000) (hs : m.cmd.key.length ≤ 100000000 ∧ m.cmd.old.length ≤ 100000000 ∧ m.cmd.new.length ≤ 100000000 ∧ m.text.length ≤ 100000000) :
    Calls Try.prog 48 #[v, msV m (.slice Av nv cv) (.slice Ai ni ci)] w fun e w' => ∃ v', e = .returned v' ∧ OwTo w v (l ++ ptBy m .name) w' v' := by
  have HO := Lib.hid h
  obtain ⟨i0, hi0, hz0, hz1, hz2⟩ := info_parts infoB
  have HN : Hid (∀ (wx : World) (vx : Value), Ow wx vx (l ++ [m.cmd.client]) → (l ++ [m.cmd.client]).length ≤ 1000000000 → Calls Try.prog 32 #[vx, .int .u64 m.cmd.seq] wx fun e w' => ∃ v', e = .returned v' ∧ OwTo wx vx (l ++ [m.cmd.client] ++ numE m.cmd.seq.toNat) w' v') := fun wx vx hx hlx => by
    obtain ⟨n, hn⟩ : ∃ n : Nat, m.cmd.seq = (n : Int) := ⟨m.cmd.seq.toNat, by have := hw.cmd.seq.1; omega⟩
    have := hw.cmd.seq.2
    have hp := wnum_any hx n (by omega) hlx
    rw [hn, Int.toNat_natCast]
    exact hp
  obtain ⟨A, c, rfl, hnc, hcm⟩ := h.shape
  obtain ⟨kind, bn, br, base, slot, node, val, votes, items, ⟨client, seq, ckind, key, old, new, cset⟩, code, text⟩ := m
  unfold msV msCells
  dsimp only at HN ⊢
  unfold ptBy
  dsimp only
  obtain ⟨M1, hM1⟩ : ∃ M, l ++ [client] = M := ⟨_, rfl⟩
  obtain ⟨R, hR⟩ : ∃ R, l ++ ([client] ++ numE seq.toNat) = R := ⟨_, rfl⟩
  rw [hR]
  have HRR : Hid (R = M1 ++ numE seq.toNat) := by show _ = _; rw [← hR, ← hM1, List.append_assoc]
  have hl1 : M1.length ≤ 1000000000 := by rw [← hM1]; simp; omega
  have HM1 := Lib.hid hM1
  rw [hM1] at HN
  have hwr : IntKind.u64.wrap seq = seq := IntWalk.u64_in _ ⟨by have := hw.cmd.seq.1; exact this, by have h3 := hw.cmd.seq.2; dsimp only at h3; omega⟩
  clear h hw hs hR hM1
  go_enter Try.func48, Try.ntmps48
  go_wp2_with fail
  have hb0 := Blk.new w 34 #[.int .u8 kind, .int .u64 bn, .int .u8 br, .int .u64 base, .int .u64 slot, .int .u8 node, .string (strOfNums val), .slice Av nv cv, .slice Ai ni ci, .int .u8 client, .int .u32 seq, .int .u8 ckind, .string (strOfNums key), .string (strOfNums old), .string (strOfNums new), .int .u8 cset, .int .u8 code, .string (strOfNums text)]
  have hw0 : Upd (fun _ => False) w (w.alloc (.cells #[.int .u8 kind, .int .u64 bn, .int .u8 br, .int .u64 base, .int .u64 slot, .int .u8 node, .string (strOfNums val), .slice Av nv cv, .slice Ai ni ci, .int .u8 client, .int .u32 seq, .int .u8 ckind, .string (strOfNums key), .string (strOfNums old), .string (strOfNums new), .int .u8 cset, .int .u8 code, .string (strOfNums text)] 34)) := (Upd.refl _ _).alloc _
  generalize w.alloc (.cells #[.int .u8 kind, .int .u64 bn, .int .u8 br, .int .u64 base, .int .u64 slot, .int .u8 node, .string (strOfNums val), .slice Av nv cv, .slice Ai ni ci, .int .u8 client, .int .u32 seq, .int .u8 ckind, .string (strOfNums key), .string (strOfNums old), .string (strOfNums new), .int .u8 cset, .int .u8 code, .string (strOfNums text)] 34) = w0 at *
  have HB0 := Lib.hid hb0
  have HU0 := Lib.hid (HO.out.still hw0)
  have HOB : Hid (∀ k, Value.ownBlock (.slice A l.length c) = some k → k ≠ w.heap.size) := fun k hk e => by have := (HO.out.lt k hk).2; omega
  have KS : Hid (∀ wx, Upd (fun b => Value.ownBlock (.slice A l.length c) = some b) w0 wx → Blk wx w.heap.size 34 #[.int .u8 kind, .int .u64 bn, .int .u8 br, .int .u64 base, .int .u64 slot, .int .u8 node, .string (strOfNums val), .slice Av nv cv, .slice Ai ni ci, .int .u8 client, .int .u32 seq, .int .u8 ckind, .string (strOfNums key), .string (strOfNums old), .string (strOfNums new), .int .u8 cset, .int .u8 code, .string (strOfNums text)]) := fun wx hu => HB0.out.upd hu (fun h => HOB.out _ h rfl)
  have zz0 : w0.cell? ⟨w.heap.size, 9, none⟩ = some (.int .u8 client) := hb0.cell 9
  have zz1 : w0.cell? ⟨w.heap.size, 10, none⟩ = some (.int .u32 seq) := hb0.cell 10
  clear hb0 hw0
  go_region_held3 (fun wx => wx.cell? ⟨w.heap.size, 9, none⟩ = some (.int .u8 client) ∧ wx.cell? ⟨w.heap.size, 10, none⟩ = some (.int .u32 seq))
    (first
      | exact ⟨zz0, zz1⟩
      | exact ⟨(HB0.out.alloc _).cell 9, (HB0.out.alloc _).cell 10⟩
      | exact ⟨(KS.out _ HO1.out.2.1).cell 9, (KS.out _ HO1.out.2.1).cell 10⟩
      | exact ⟨(KS.out _ HO2.out.2.1).cell 9, (KS.out _ HO2.out.2.1).cell 10⟩
      | fail)
    (first
      | (go_at_call 32
         have hq1 := HO1.out.1
         (with_reducible refine (HN.out _ _ hq1 hl1).mono ?_)
         clear hq1
         rintro e w2 ⟨v2, rfl, ho2⟩
         have HO2 := Lib.hid (HO1.out.trans ho2)
         clear ho2)
      | (refine step_append_sl _ (by rfl) (.tmp 5) (.tmp 9) _ (by rfl) 5 i0 (.int .u8 0) 1 1 Try.underlying23 hi0 hz0 hz1 hz2 rfl (by omega) (.slice A l.length c) l.length (l.map (Value.int .u8)) (by rfl) (by first | exact (HU0.out.1.still (((Upd.refl _ _).alloc _).drew)).1 | exact (HU0.out.1.still (((Upd.refl _ _).drew.alloc _))).1) _ _ 1 [.int .u8 client] (by rfl) (by exact Sl.one _ _ _) (by simp [Value.oneCell']) (by simp only [maxLen]; omega) (by omega) ?_
         intro v1 w1 hown1 hg1 hat1
         have ho1 : OwTo w0 (.slice A l.length c) (l ++ [client]) w1 v1 := by first | exact OwTo.app (m := [client]) (HU0.out.1.still (((Upd.refl _ _).alloc _).drew)) hown1 hg1 hat1 | exact OwTo.app (m := [client]) (HU0.out.1.still (((Upd.refl _ _).drew.alloc _))) hown1 hg1 hat1
         rw [HM1.out] at ho1
         obtain ⟨A1, c1, rfl, _, _⟩ := ho1.1.shape
         have HO1 := Lib.hid ho1
         clear hown1 hg1 hat1 ho1)
      | fail)
  all_goals
    go_wp2_with fail
    go_ret
    exact ⟨_, rfl, by rw [HRR.out]; exact HU0.out.trans HO2.out⟩

set_option maxRecDepth 100000 in
set_option maxHeartbeats 600000 in
theorem rp_put {w : World} {v : Value} {l : List Int} (h : Ow w v l) (m : Ms) (hw : WfM m) (Av Ai : Option Addr) (nv cv ni ci : Nat) (hl : l.length ≤ 100000000) (hs : m.cmd.key.length ≤ 100000000 ∧ m.cmd.old.length ≤ 100000000 ∧ m.cmd.new.length ≤ 100000000 ∧ m.text.length ≤ 100000000) :
    Calls Try.prog 53 #[v, msV m (.slice Av nv cv) (.slice Ai ni ci)] w fun e w' => ∃ v', e = .returned v' ∧ OwTo w v (l ++ ptBy m .reply) w' v' := by
  have HO := Lib.hid h
  obtain ⟨i0, hi0, hz0, hz1, hz2⟩ := info_parts infoB
  have HN : Hid (∀ (wx : World) (vx : Value), Ow wx vx (l ++ [m.code]) → (l ++ [m.code]).length ≤ 1000000000 → Calls Try.prog 54 #[vx, .string (strOfNums m.text)] wx fun e w' => ∃ v', e = .returned v' ∧ OwTo wx vx (l ++ [m.code] ++ strBy m.text) w' v') := fun wx vx hx hlx => wstr_of hx m.text hw.text (by omega) hlx
  obtain ⟨A, c, rfl, hnc, hcm⟩ := h.shape
  obtain ⟨kind, bn, br, base, slot, node, val, votes, items, ⟨client, seq, ckind, key, old, new, cset⟩, code, text⟩ := m
  unfold msV msCells
  dsimp only at HN ⊢
  unfold ptBy
  dsimp only
  obtain ⟨M1, hM1⟩ : ∃ M, l ++ [code] = M := ⟨_, rfl⟩
  obtain ⟨R, hR⟩ : ∃ R, l ++ ([code] ++ strBy text) = R := ⟨_, rfl⟩
  rw [hR]
  have HRR : Hid (R = M1 ++ strBy text) := by show _ = _; rw [← hR, ← hM1, List.append_assoc]
  have hl1 : M1.length ≤ 1000000000 := by rw [← hM1]; simp; omega
  have HM1 := Lib.hid hM1
  rw [hM1] at HN
  clear h hw hs hR hM1
  go_enter Try.func53, Try.ntmps53
  go_wp2_with fail
  have hb0 := Blk.new w 34 #[.int .u8 kind, .int .u64 bn, .int .u8 br, .int .u64 base, .int .u64 slot, .int .u8 node, .string (strOfNums val), .slice Av nv cv, .slice Ai ni ci, .int .u8 client, .int .u32 seq, .int .u8 ckind, .string (strOfNums key), .string (strOfNums old), .string (strOfNums new), .int .u8 cset, .int .u8 code, .string (strOfNums text)]
  have hw0 : Upd (fun _ => False) w (w.alloc (.cells #[.int .u8 kind, .int .u64 bn, .int .u8 br, .int .u64 base, .int .u64 slot, .int .u8 node, .string (strOfNums val), .slice Av nv cv, .slice Ai ni ci, .int .u8 client, .int .u32 seq, .int .u8 ckind, .string (strOfNums key), .string (strOfNums old), .string (strOfNums new), .int .u8 cset, .int .u8 code, .string (strOfNums text)] 34)) := (Upd.refl _ _).alloc _
  generalize w.alloc (.cells #[.int .u8 kind, .int .u64 bn, .int .u8 br, .int .u64 base, .int .u64 slot, .int .u8 node, .string (strOfNums val), .slice Av nv cv, .slice Ai ni ci, .int .u8 client, .int .u32 seq, .int .u8 ckind, .string (strOfNums key), .string (strOfNums old), .string (strOfNums new), .int .u8 cset, .int .u8 code, .string (strOfNums text)] 34) = w0 at *
  have HB0 := Lib.hid hb0
  have HU0 := Lib.hid (HO.out.still hw0)
  have HOB : Hid (∀ k, Value.ownBlock (.slice A l.length c) = some k → k ≠ w.heap.size) := fun k hk e => by have := (HO.out.lt k hk).2; omega
  have KS : Hid (∀ wx, Upd (fun b => Value.ownBlock (.slice A l.length c) = some b) w0 wx → Blk wx w.heap.size 34 #[.int .u8 kind, .int .u64 bn, .int .u8 br, .int .u64 base, .int .u64 slot, .int .u8 node, .string (strOfNums val), .slice Av nv cv, .slice Ai ni ci, .int .u8 client, .int .u32 seq, .int .u8 ckind, .string (strOfNums key), .string (strOfNums old), .string (strOfNums new), .int .u8 cset, .int .u8 code, .string (strOfNums text)]) := fun wx hu => HB0.out.upd hu (fun h => HOB.out _ h rfl)
  have zz0 : w0.cell? ⟨w.heap.size, 16, none⟩ = some (.int .u8 code) := hb0.cell 16
  have zz1 : w0.cell? ⟨w.heap.size, 17, none⟩ = some (.string (strOfNums text)) := hb0.cell 17
  clear hb0 hw0
  go_region_held3 (fun wx => wx.cell? ⟨w.heap.size, 16, none⟩ = some (.int .u8 code) ∧ wx.cell? ⟨w.heap.size, 17, none⟩ = some (.string (strOfNums text)))
    (first
      | exact ⟨zz0, zz1⟩
      | exact ⟨(HB0.out.alloc _).cell 16, (HB0.out.alloc _).cell 17⟩
      | exact ⟨(KS.out _ HO1.out.2.1).cell 16, (KS.out _ HO1.out.2.1).cell 17⟩
      | exact ⟨(KS.out _ HO2.out.2.1).cell 16, (KS.out _ HO2.out.2.1).cell 17⟩
      | fail)
    (first
      | (go_at_call 54
         have hq1 := HO1.out.1
         (with_reducible refine (HN.out _ _ hq1 hl1).mono ?_)
         clear hq1
         rintro e w2 ⟨v2, rfl, ho2⟩
         have HO2 := Lib.hid (HO1.out.trans ho2)
         clear ho2)
      | (refine step_append_sl _ (by rfl) (.tmp 5) (.tmp 9) _ (by rfl) 5 i0 (.int .u8 0) 1 1 Try.underlying23 hi0 hz0 hz1 hz2 rfl (by omega) (.slice A l.length c) l.length (l.map (Value.int .u8)) (by rfl) (by first | exact (HU0.out.1.still (((Upd.refl _ _).alloc _).drew)).1 | exact (HU0.out.1.still (((Upd.refl _ _).drew.alloc _))).1) _ _ 1 [.int .u8 code] (by rfl) (by exact Sl.one _ _ _) (by simp [Value.oneCell']) (by simp only [maxLen]; omega) (by omega) ?_
         intro v1 w1 hown1 hg1 hat1
         have ho1 : OwTo w0 (.slice A l.length c) (l ++ [code]) w1 v1 := by first | exact OwTo.app (m := [code]) (HU0.out.1.still (((Upd.refl _ _).alloc _).drew)) hown1 hg1 hat1 | exact OwTo.app (m := [code]) (HU0.out.1.still (((Upd.refl _ _).drew.alloc _))) hown1 hg1 hat1
         rw [HM1.out] at ho1
         obtain ⟨A1, c1, rfl, _, _⟩ := ho1.1.shape
         have HO1 := Lib.hid ho1
         clear hown1 hg1 hat1 ho1)
      | fail)
  all_goals
    go_wp2_with fail
    go_ret
    exact ⟨_, rfl, by rw [HRR.out]; exact HU0.out.trans HO2.out⟩

end Go.Proofs.Ytaielcokfpodaaa
