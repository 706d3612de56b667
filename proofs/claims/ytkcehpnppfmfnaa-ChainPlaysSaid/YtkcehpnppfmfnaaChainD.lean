/-
  Package chain: Span: the nodes of a span's configurations, by a range over a function. Conditions: the chain's numbers lie within the document's bounds.
-/
import Derived.Test.YtkcehpnppfmfnaaChainB
import Derived.Test.YtkcehpnppfmfnaaRange
namespace Go.Proofs.Ytkcehpnppfmfnaa
open Go.RowKit Go.Shelf

attribute [local go_sem] Oper.semAt_some

def knLo (low : Nat) (frm : Int) : Nat := max (max frm 1).toNat (if low = 0 then 0 else low + 3)
def knHi (low : Nat) (L : List Int) (to : Int) : Nat := min to.toNat (low + L.length + 2)
/-- What the iterator yields. -/
def knL (low : Nat) (L : List Int) (frm to : Int) : List Int := (List.range (knHi low L to + 1 - knLo low frm)).map fun i => atS low L ((knLo low frm + i : Nat) : Int)

theorem known_any (a : Option Addr) (frm to : Int) (w : World) :
    Calls Try.prog 33 #[.pointer a, .int .u64 frm, .int .u64 to] w fun e w' =>
      e = .returned (.func (.func 38) #[] #[.pointer (some ⟨w.heap.size + 1, 0, none⟩), .pointer (some ⟨w.heap.size, 0, none⟩), .pointer (some ⟨w.heap.size + 2, 0, none⟩)]) ∧
      ((w.alloc (.cells #[.pointer a] 24)).alloc (.cells #[.int .u64 frm] 26)).alloc (.cells #[.int .u64 to] 26) = w' := by
  go_enter Try.func33, Try.ntmps33
  go_wp2
  go_ret
  exact ⟨rfl, rfl⟩

theorem Chn.keepTo {w w' : World} {n₁ : Nat} {F G : Nat → Prop} {p : Value} {low : Nat} {L : List Int} (h : Chn w G p low L) (hk : KeepTo n₁ F w w') (hG : ∀ k, G k → k < n₁ ∧ ¬ F k) : Chn w' G p low L := by
  obtain ⟨b, v, rfl, hF, hb, ho, hv⟩ := h
  refine ⟨b, v, rfl, hF, (hk.block b (hG b hF).1 (hG b hF).2).trans hb, ⟨ho.1, ?_⟩, hv⟩
  rcases ho.2 with hn | ⟨g, cap, cur, rfl, hb', hgg, rest⟩
  · exact .inl hn
  · have := hG g (hv g (by simp [Value.ownBlock]))
    exact .inr ⟨g, cap, cur, rfl, hb', (hk.block g this.1 this.2).trans hgg, rest⟩

set_option maxRecDepth 100000 in
set_option maxHeartbeats 4000000 in
theorem known1_in (n : Nat) (hn : 1 ≤ n) (l b1 b2 b3 n₁ : Nat) (F G : Nat → Prop) (p : Value) (low : Nat) (L : List Int) (frm to : Int) (xs : List Int) (hxs : xs = knL low L frm to) (J Jx : List Int → World → Prop)
    (hY : ∀ pre x W, J pre W → pre.length < xs.length → YieldAt Fence.wide (n - 1) Try.prog l #[.int .u8 x] W fun e W' =>
      (e = .returned (.bool true) ∧ J (pre ++ [x]) W' ∧ KeepTo n₁ F W W') ∨ (e = .returned (.bool false) ∧ Jx (pre ++ [x]) W'))
    (W : World) (hJ : AbidesFrom W.heap.size J) (h1 : W.cell? ⟨b1, 0, none⟩ = some (.int .u64 frm)) (h2 : W.cell? ⟨b2, 0, none⟩ = some p) (h3 : W.cell? ⟨b3, 0, none⟩ = some (.int .u64 to))
    (_hb1 : b1 < n₁ ∧ ¬ F b1) (hb2 : b2 < n₁ ∧ ¬ F b2) (hb3 : b3 < n₁ ∧ ¬ F b3) (hG : ∀ k, G k → k < n₁ ∧ ¬ F k)
    (hC : Chn W G p low L) (hok : ChnOk low L) (hf0 : 0 ≤ frm) (hf1 : frm ≤ 18446744073709551615) (ht0 : 0 ≤ to) (ht1 : to ≤ 18446744073709551615) (h0 : J [] W) :
    CallsIn Fence.wide n Try.prog 38 #[.func (.yield l) #[] #[], .pointer (some ⟨b1, 0, none⟩), .pointer (some ⟨b2, 0, none⟩), .pointer (some ⟨b3, 0, none⟩)] W fun e W' => (∃ v, e = .returned v) ∧
      ((∃ ys, ys = xs ∧ J ys W') ∨ (∃ pre, pre <+: xs ∧ Jx pre W')) := by
  have hC' := hC
  obtain ⟨b, v, rfl, hFb, hb, ho, hv⟩ := hC
  have c0 : W.cell? ⟨b, 0, none⟩ = some (.int .u64 (low : Int)) := hb.cell 0
  obtain ⟨k0, k1, k2⟩ := id hok
  have HC := Lib.hid hC'
  have HV := Lib.hid hv
  have HO := Lib.hid ho
  have HB := Lib.hid hb
  have HG := Lib.hid hG
  have HJ := Lib.hid hJ
  have HY := Lib.hid hY
  have HK := Lib.hid hok
  clear hC' hv ho hb hG hJ hY hok k2
  obtain ⟨lo, hlo⟩ : ∃ lo, lo = knLo low frm := ⟨_, rfl⟩
  have hlen : xs.length = knHi low L to + 1 - lo := by rw [hxs, hlo]; simp [knL]
  have hget : ∀ j (hj : j < xs.length), xs[j] = atS low L ((lo + j : Nat) : Int) ∧ atB low L ((lo + j : Nat) : Int) = true := by
    intro j hj
    rw [hlen] at hj
    subst hxs
    refine ⟨by simp [knL, hlo], ?_⟩
    unfold atB
    refine decide_eq_true ?_
    have e1 : knHi low L to = min to.toNat (low + L.length + 2) := rfl
    have e2 : knLo low frm = max (max frm 1).toNat (if low = 0 then 0 else low + 3) := rfl
    unfold bh
    split at e2 <;> split <;> omega
  have hend : (lo : Int) ≤ 18446744073709551615 := by
    have e2 : knLo low frm = max (max frm 1).toNat (if low = 0 then 0 else low + 3) := rfl
    split at e2 <;> omega
  have hhi : ∀ j : Nat, j ≤ xs.length → ((lo : Int) + (j : Int) ≤ min to ((low : Int) + (L.length : Int) - 1 + 3) ↔ j < xs.length) := by
    intro j hj
    have e1 : knHi low L to = min to.toNat (low + L.length + 2) := rfl
    omega
  have HGET := Lib.hid hget
  have HHI := Lib.hid hhi
  clear hxs hget hhi
  have hsm : low = 0 ∧ max frm 1 = (lo : Int) ∨ 0 < low ∧ max (max frm 1) ((low : Int) + 3) = (lo : Int) := by
    have e2 : knLo low frm = max (max frm 1).toNat (if low = 0 then 0 else low + 3) := rfl
    rcases Nat.eq_zero_or_pos low with h | h
    · rw [if_pos h] at e2; left; refine ⟨h, ?_⟩; omega
    · rw [if_neg (by omega)] at e2; right; refine ⟨h, ?_⟩; omega
  have hxl : (lo : Int) + (xs.length : Int) ≤ max (lo : Int) ((low : Int) + (L.length : Int) + 3) := by
    have e1 : knHi low L to = min to.toNat (low + L.length + 2) := rfl
    omega
  have hlo' : (lo : Int) ≤ 18446744073709551615 := hend
  clear hlo hlen hend
  have mixed : Try.prog.follows .mixedOrders = true := by kernel_rfl
  rcases hsm with ⟨hz, hm⟩ | ⟨hz, hm⟩
  · have hz' : decide (0 < low) = false := decide_eq_false (by omega)
    clear hz
    refine callsIn_of_wp Try.func38 rfl trivial ?_ rfl
    simp only [Try.ntmps38, List.size_toArray, List.length_cons, List.length_nil, Nat.reduceAdd, Nat.reduceSub, Array.replicate_succ, Array.replicate_zero, List.push_toArray, List.append_toArray, List.nil_append, List.cons_append]
    gi_wp2_with fail
    clear hm
    gi_loopw [6] (fun s wr => ∃ j : Nat, j ≤ xs.length ∧ s = .int .u64 ((lo : Int) + (j : Int)) ∧ J (xs.take j) wr ∧ KeepTo n₁ F W wr) (fun s wr => lo + xs.length - (intOf s).toNat)
    case atStart => exact ⟨0, Nat.zero_le _, by simp, by simpa using h0, KeepTo.refl _ _ _⟩
    case round =>
      obtain ⟨j, hj, rfl, hJw, hkp⟩ := hrel
      have d1 : wr.cell? ⟨b2, 0, none⟩ = some (.pointer (some ⟨b, 0, none⟩)) := (hkp.cell (p := ⟨b2, 0, none⟩) hb2.1 hb2.2).trans h2
      have d2 : wr.cell? ⟨b3, 0, none⟩ = some (.int .u64 to) := (hkp.cell (p := ⟨b3, 0, none⟩) hb3.1 hb3.2).trans h3
      have HCW := Lib.hid (HC.out.keepTo hkp HG.out)
      have hiff := HHI.out j hj
      have HJ2 : Hid (AbidesFrom wr.heap.size J) := fun s A B row hs hg hr => HJ.out s A B row hs hg (fun r e => ⟨Nat.le_trans hkp.size (hr r e).1, (hr r e).2⟩)
      have HJW := Lib.hid hJw
      have HKP := Lib.hid hkp
      clear hJw hkp c0
      by_cases hlt : j < xs.length
      · have hle := hiff.2 hlt
        have hle2 : (lo : Int) + (j : Int) ≤ to ∧ (lo : Int) + (j : Int) ≤ (low : Int) + (L.length : Int) - 1 + 3 := by omega
        clear hiff hle
        obtain ⟨hle3, hle4⟩ := hle2
        obtain ⟨ga, gb⟩ := HGET.out j hlt
        have HA := fun (wx : World) (h : Chn wx G (.pointer (some ⟨b, 0, none⟩)) low L) => at_any h HK.out ((lo : Int) + (j : Int)) (by omega) (by omega)
        rw [Int.natCast_add] at ga gb
        rw [← ga, gb] at HA
        have HAA := Lib.hid HA
        clear HA ga gb
        have hwr : IntKind.u64.wrap ((low : Int) + (L.length : Int) - 1 + 3) = (low : Int) + (L.length : Int) - 1 + 3 := IntWalk.u64_in _ ⟨by omega, by omega⟩
        gi_wp2_with fail
        gi_region_with_o (refine ⟨trivial, ?_⟩; gi_at_call 11; refine (callsIn_wide.2 (top_any (show Chn wr.drew G (.pointer (some ⟨b, 0, none⟩)) low L from HCW.out) HK.out)).mono ?_; rintro e w' ⟨rfl, nq, rfl⟩)
        all_goals
          gi_wp2_with (refine ⟨trivial, ?_⟩; gi_at_call 10; refine (callsIn_wide.2 (HAA.out _ (show Chn (wr.drewN _) G (.pointer (some ⟨b, 0, none⟩)) low L from HCW.out))).mono ?_; rintro e w' ⟨rfl, nq2, rfl⟩; obtain ⟨fn, tmps, assign, body, hy, hR⟩ := HY.out (xs.take j) xs[j] (wr.drewN (1 + nq + nq2)) (abides_upd HJ2.out HJW.out ((Upd.refl _ _).drewN _)) (by rw [List.length_take]; omega))
          refine hR.mono ?_
          rintro e W3 (⟨rfl, hJ3, hk3⟩ | ⟨rfl, hJx3⟩)
          · gi_wp2
            go_roundw
            case rel =>
              refine ⟨j + 1, by omega, by go_num, ?_, HKP.out.trans (((KeepTo.refl _ _ wr).drewN _).trans hk3)⟩
              rw [List.take_succ_eq_append_getElem hlt]
              exact hJ3
            case measure => simp [intOf]; omega
          · gi_wp2
            refine bodyPost_ret (results_none rfl _ _ _) rfl ?_
            exact ⟨⟨_, rfl⟩, .inr ⟨xs.take j ++ [xs[j]], by rw [← List.take_succ_eq_append_getElem hlt]; exact List.take_prefix _ _, hJx3⟩⟩
      · have hgt : min to ((low : Int) + (L.length : Int) - 1 + 3) < (lo : Int) + (j : Int) := by
          have : ¬ ((lo : Int) + (j : Int) ≤ min to ((low : Int) + (L.length : Int) - 1 + 3)) := fun h => hlt (hiff.1 h)
          omega
        have hje : j = xs.length := by omega
        subst hje
        clear hiff hlt
        have hwr : IntKind.u64.wrap ((low : Int) + (L.length : Int) - 1 + 3) = (low : Int) + (L.length : Int) - 1 + 3 := IntWalk.u64_in _ ⟨by omega, by omega⟩
        gi_wp2_with fail
        gi_region_with_o (refine ⟨trivial, ?_⟩; gi_at_call 11; refine (callsIn_wide.2 (top_any (show Chn wr.drew G (.pointer (some ⟨b, 0, none⟩)) low L from HCW.out) HK.out)).mono ?_; rintro e w' ⟨rfl, nq, rfl⟩)
        all_goals
          gi_wp2
          go_end0
          refine ⟨⟨_, rfl⟩, .inl ?_⟩
          have := HJW.out
          rw [List.take_of_length_le (Nat.le_refl _)] at this
          exact abides_upd HJ2.out this ((Upd.refl _ _).drewN _)
  · have hz' : decide (0 < low) = true := decide_eq_true (by omega)
    clear hz
    refine callsIn_of_wp Try.func38 rfl trivial ?_ rfl
    simp only [Try.ntmps38, List.size_toArray, List.length_cons, List.length_nil, Nat.reduceAdd, Nat.reduceSub, Array.replicate_succ, Array.replicate_zero, List.push_toArray, List.append_toArray, List.nil_append, List.cons_append]
    gi_wp2_with fail
    clear hm
    gi_loopw [6] (fun s wr => ∃ j : Nat, j ≤ xs.length ∧ s = .int .u64 ((lo : Int) + (j : Int)) ∧ J (xs.take j) wr ∧ KeepTo n₁ F W wr) (fun s wr => lo + xs.length - (intOf s).toNat)
    case atStart => exact ⟨0, Nat.zero_le _, by simp, by simpa using h0, KeepTo.refl _ _ _⟩
    case round =>
      obtain ⟨j, hj, rfl, hJw, hkp⟩ := hrel
      have d1 : wr.cell? ⟨b2, 0, none⟩ = some (.pointer (some ⟨b, 0, none⟩)) := (hkp.cell (p := ⟨b2, 0, none⟩) hb2.1 hb2.2).trans h2
      have d2 : wr.cell? ⟨b3, 0, none⟩ = some (.int .u64 to) := (hkp.cell (p := ⟨b3, 0, none⟩) hb3.1 hb3.2).trans h3
      have HCW := Lib.hid (HC.out.keepTo hkp HG.out)
      have hiff := HHI.out j hj
      have HJ2 : Hid (AbidesFrom wr.heap.size J) := fun s A B row hs hg hr => HJ.out s A B row hs hg (fun r e => ⟨Nat.le_trans hkp.size (hr r e).1, (hr r e).2⟩)
      have HJW := Lib.hid hJw
      have HKP := Lib.hid hkp
      clear hJw hkp c0
      by_cases hlt : j < xs.length
      · have hle := hiff.2 hlt
        have hle2 : (lo : Int) + (j : Int) ≤ to ∧ (lo : Int) + (j : Int) ≤ (low : Int) + (L.length : Int) - 1 + 3 := by omega
        clear hiff hle
        obtain ⟨hle3, hle4⟩ := hle2
        obtain ⟨ga, gb⟩ := HGET.out j hlt
        have HA := fun (wx : World) (h : Chn wx G (.pointer (some ⟨b, 0, none⟩)) low L) => at_any h HK.out ((lo : Int) + (j : Int)) (by omega) (by omega)
        rw [Int.natCast_add] at ga gb
        rw [← ga, gb] at HA
        have HAA := Lib.hid HA
        clear HA ga gb
        have hwr : IntKind.u64.wrap ((low : Int) + (L.length : Int) - 1 + 3) = (low : Int) + (L.length : Int) - 1 + 3 := IntWalk.u64_in _ ⟨by omega, by omega⟩
        gi_wp2_with fail
        gi_region_with_o (refine ⟨trivial, ?_⟩; gi_at_call 11; refine (callsIn_wide.2 (top_any (show Chn wr.drew G (.pointer (some ⟨b, 0, none⟩)) low L from HCW.out) HK.out)).mono ?_; rintro e w' ⟨rfl, nq, rfl⟩)
        all_goals
          gi_wp2_with (refine ⟨trivial, ?_⟩; gi_at_call 10; refine (callsIn_wide.2 (HAA.out _ (show Chn (wr.drewN _) G (.pointer (some ⟨b, 0, none⟩)) low L from HCW.out))).mono ?_; rintro e w' ⟨rfl, nq2, rfl⟩; obtain ⟨fn, tmps, assign, body, hy, hR⟩ := HY.out (xs.take j) xs[j] (wr.drewN (1 + nq + nq2)) (abides_upd HJ2.out HJW.out ((Upd.refl _ _).drewN _)) (by rw [List.length_take]; omega))
          refine hR.mono ?_
          rintro e W3 (⟨rfl, hJ3, hk3⟩ | ⟨rfl, hJx3⟩)
          · gi_wp2
            go_roundw
            case rel =>
              refine ⟨j + 1, by omega, by go_num, ?_, HKP.out.trans (((KeepTo.refl _ _ wr).drewN _).trans hk3)⟩
              rw [List.take_succ_eq_append_getElem hlt]
              exact hJ3
            case measure => simp [intOf]; omega
          · gi_wp2
            refine bodyPost_ret (results_none rfl _ _ _) rfl ?_
            exact ⟨⟨_, rfl⟩, .inr ⟨xs.take j ++ [xs[j]], by rw [← List.take_succ_eq_append_getElem hlt]; exact List.take_prefix _ _, hJx3⟩⟩
      · have hgt : min to ((low : Int) + (L.length : Int) - 1 + 3) < (lo : Int) + (j : Int) := by
          have : ¬ ((lo : Int) + (j : Int) ≤ min to ((low : Int) + (L.length : Int) - 1 + 3)) := fun h => hlt (hiff.1 h)
          omega
        have hje : j = xs.length := by omega
        subst hje
        clear hiff hlt
        have hwr : IntKind.u64.wrap ((low : Int) + (L.length : Int) - 1 + 3) = (low : Int) + (L.length : Int) - 1 + 3 := IntWalk.u64_in _ ⟨by omega, by omega⟩
        gi_wp2_with fail
        gi_region_with_o (refine ⟨trivial, ?_⟩; gi_at_call 11; refine (callsIn_wide.2 (top_any (show Chn wr.drew G (.pointer (some ⟨b, 0, none⟩)) low L from HCW.out) HK.out)).mono ?_; rintro e w' ⟨rfl, nq, rfl⟩)
        all_goals
          gi_wp2
          go_end0
          refine ⟨⟨_, rfl⟩, .inl ?_⟩
          have := HJW.out
          rw [List.take_of_length_le (Nat.le_refl _)] at this
          exact abides_upd HJ2.out this ((Upd.refl _ _).drewN _)
/-- What Span gathers. -/
def spanF (l : List Int) : Int := l.foldl (fun a x => bits .and .u8 (bits .or .u8 a x) 127) 0

theorem span_nil (frm to : Int) (w : World) : Calls Try.prog 19 #[.pointer none, .int .u64 frm, .int .u64 to] w fun e w' => e = .returned (.int .u8 0) ∧ Upd (fun _ => False) w w' := by
  go_enter Try.func19, Try.ntmps19
  go_wp2_with fail
  go_ret
  exact ⟨rfl, (Upd.refl _ _).alloc _⟩

set_option maxRecDepth 100000 in
set_option maxHeartbeats 4000000 in
theorem span_any {w : World} {G : Nat → Prop} {p : Value} {low : Nat} {L : List Int} (h : Chn w G p low L) (hok : ChnOk low L) (frm to : Int) (hf0 : 0 ≤ frm) (hf1 : frm ≤ 18446744073709551615) (ht0 : 0 ≤ to) (ht1 : to ≤ 18446744073709551615) :
    Calls Try.prog 19 #[p, .int .u64 frm, .int .u64 to] w fun e w' => e = .returned (.int .u8 (spanF (knL low L frm to))) ∧ Upd (fun _ => False) w w' := by
  obtain ⟨G', hG', hC⟩ := h.lt
  have hC' := hC
  obtain ⟨b, v, rfl, hFb, hb, ho, hv⟩ := hC
  have HC := Lib.hid hC'
  have HG := Lib.hid hG'
  have HK := Lib.hid hok
  clear hC' hb ho hv h hok hFb
  refine (callsIn_wide (n := 5)).1 ?_
  refine callsIn_of_wp_marks Try.func19 rfl trivial ?_ rfl
  simp only [Try.ntmps19, List.size_toArray, List.length_cons, List.length_nil, Nat.reduceAdd, Nat.reduceSub, Array.replicate_succ, Array.replicate_zero, List.push_toArray, List.append_toArray, List.nil_append, List.cons_append]
  gi_wp2_with (refine ⟨trivial, ?_⟩; gi_at_call 33; refine (callsIn_wide.2 (known_any _ _ _ _)).mono ?_; rintro e w' ⟨rfl, rfl⟩)
  obtain ⟨W0, hW0⟩ : ∃ W0, W0 = ((((w.alloc (.cells #[.int .u8 0] 27)).alloc (.cells #[.pointer (some ⟨b, 0, none⟩)] 24)).alloc (.cells #[.int .u64 frm] 26)).alloc (.cells #[.int .u64 to] 26)) := ⟨_, rfl⟩
  have hsz : W0.heap.size = w.heap.size + 4 := by rw [hW0]; simp
  have hU : Upd (fun _ => False) w W0 := by rw [hW0]; exact ((((Upd.refl _ _).alloc _).alloc _).alloc _).alloc _
  have e0 : Blk W0 w.heap.size 27 #[.int .u8 0] := by rw [hW0]; exact (((Blk.new _ _ _).alloc _).alloc _).alloc _
  have e1 : Blk W0 (w.heap.size + 1) 24 #[.pointer (some ⟨b, 0, none⟩)] := by rw [hW0]; exact ((Blk.newAt _ _ _ (by simp)).alloc _).alloc _
  have e2 : Blk W0 (w.heap.size + 2) 26 #[.int .u64 frm] := by rw [hW0]; exact (Blk.newAt _ _ _ (by simp)).alloc _
  have e3 : Blk W0 (w.heap.size + 3) 26 #[.int .u64 to] := by rw [hW0]; exact Blk.newAt _ _ _ (by simp)
  rw [← hW0]
  have hC0 : Chn W0 G' (.pointer (some ⟨b, 0, none⟩)) low L := HC.out.upd hU (fun _ _ h => h)
  clear hW0
  refine wpIn_rangeFunc_ownF rfl (by omega) (gf := 38) (lb := #[.pointer (some ⟨w.heap.size + 2, 0, none⟩), .pointer (some ⟨w.heap.size + 1, 0, none⟩), .pointer (some ⟨w.heap.size + 3, 0, none⟩)]) rfl trivial (enters_of Try.func38 (by kernel_rfl) rfl)
    (encs := fun x : Int => #[.int .u8 x]) (Kp := KeepTo (w.heap.size + 4) (fun k => k = w.heap.size)) (S := fun ys => ys = knL low L frm to) (Sp := fun pre => pre <+: knL low L frm to) (N := (knL low L frm to).length) (w0 := W0)
    (fun l J Jx W hW hJ _ hY h0 => known1_in 4 (by omega) l _ _ _ (w.heap.size + 4) (fun k => k = w.heap.size) G' (.pointer (some ⟨b, 0, none⟩)) low L frm to _ rfl J Jx hY W hJ
      ((hW.cell (p := ⟨w.heap.size + 2, 0, none⟩) (by rw [hsz]; simp)).trans (e2.cell 0)) ((hW.cell (p := ⟨w.heap.size + 1, 0, none⟩) (by rw [hsz]; simp)).trans (e1.cell 0)) ((hW.cell (p := ⟨w.heap.size + 3, 0, none⟩) (by rw [hsz]; simp)).trans (e3.cell 0))
      ⟨by omega, by omega⟩ ⟨by omega, by omega⟩ ⟨by omega, by omega⟩ (fun k hk => by have := (HG.out k hk).2; omega)
      (hC0.keepTo (F := fun _ => False) (n₁ := W0.heap.size) ⟨hW.os, hW.tape, hW.output, hW.size, fun k hk _ => hW.block k hk⟩ (fun k hk => ⟨by have := (HG.out k hk).2; omega, id⟩)) HK.out hf0 hf1 ht0 ht1 h0)
    KeepTo.trans (keepTo_b (by rw [hsz]; exact Nat.le_refl _)) (Below.refl _ _) (fun _ => rfl)
    (fun pre W => (W.cell? ⟨w.heap.size, 0, none⟩ = some (.int .u8 (spanF pre)) ∧ W.frozen? ⟨w.heap.size, 0, none⟩ = false) ∧ KeepTo (w.heap.size + 4) (fun k => k = w.heap.size) W0 W)
    (fun _ _ _ => False)
    (OwnFrom.and (Own.from (fun s A B row hs hg hr => ⟨cell_kept hs.1 hg hr, (frozen_kept hs.1 hg hr).trans hs.2⟩) _) (ownFrom_keepTo (by omega) (by omega)))
    (fun _ _ _ _ _ hs _ _ => hs)
    ⟨⟨e0.cell 0, e0.frozen 0⟩, KeepTo.refl _ _ _⟩
    (fun x => { tmps := #[.pointer (some ⟨b, 0, none⟩), .int .u64 frm, .int .u64 to, undef, undef, undef, .int .u8 0, .pointer (some ⟨w.heap.size, 0, none⟩), .int .u8 x, .pointer (some ⟨b, 0, none⟩), .bool false, undef, .pointer (some ⟨b, 0, none⟩), .int .u64 frm, .int .u64 to, .func (.func 38) #[] #[.pointer (some ⟨w.heap.size + 2, 0, none⟩), .pointer (some ⟨w.heap.size + 1, 0, none⟩), .pointer (some ⟨w.heap.size + 3, 0, none⟩)], .int .u8 x, undef, undef, undef, undef], defers := [] }) ?assign ?body ?done ?stop
  case assign =>
    intro l x W K hK
    gi_wp2
    exact hK
  case body =>
    rintro l pre x W ⟨⟨hc, hf⟩, hk⟩ _
    gi_wp2_with (refine ⟨trivial, ?_⟩; gi_at_call 34; refine (CallsIn.inRound l (callsIn_wide.2 (with_any _ _ _))).mono ?_; rintro e w' ⟨rfl, rfl⟩)
    refine ⟨KeepsOthers.setCell _ _ _, (KeepTo.refl _ (fun k => k = w.heap.size) W).setCell (p := ⟨w.heap.size, 0, none⟩) (.inl rfl) _, ⟨?_, by rw [World.frozen?_setCell]; exact hf⟩, hk.setCell (p := ⟨w.heap.size, 0, none⟩) (.inl rfl) _⟩
    rw [World.cell?_setCell_same' _ _ _ (by rw [hc]; rfl)]
    simp [spanF]
  case done =>
    rintro D ys W hD rfl ⟨⟨hc, _⟩, hk⟩ hK
    gi_wp2
    refine ⟨by simp, .inl ⟨_, _, rfl, run_takeDeferred hK, ?_⟩⟩
    refine ⟨_, results_tmp rfl _ _ _, rfl, ?_⟩
    have hB : Below w.heap.size w W := ⟨hk.os.trans hU.os, hk.tape.trans hU.tape, hk.output.trans hU.output, Nat.le_trans hU.size hk.size, fun k hk' => (hk.block k (by omega) (by omega)).trans (hU.block k hk' id)⟩
    exact Upd.of_below (hB.trans (belowK_b (w := w) (Nat.le_refl _) W D _ _ (by omega) hK rfl rfl))
  case stop =>
    rintro D c pre W _ _ h _
    exact h.elim

end Go.Proofs.Ytkcehpnppfmfnaa
