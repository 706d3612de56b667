/-
  The reference of layer 15: Span. Conditions: the chain's numbers lie within the document's bounds; at most 1000 directories.
-/
import Derived.Test.YtkcehpnppfmfnaaRefD
namespace Go.Proofs.Ytkcehpnppfmfnaa
open Go.RowKit

/-- What the reference's Span gathers in its first rounds. -/
def gath (low : Nat) (L : List Int) (frm to : Int) : Nat → List Int
  | 0 => []
  | i + 1 => gath low L frm to i ++ if atB low L ((low : Int) + (i : Int) + 1) = true ∧ frm ≤ (low : Int) + (i : Int) + 1 ∧ (low : Int) + (i : Int) + 1 ≤ to then listK (atS low L ((low : Int) + (i : Int) + 1)) 7 else []
theorem gath_len (low : Nat) (L : List Int) (frm to : Int) : ∀ i, (gath low L frm to i).length ≤ 7 * i
  | 0 => by simp [gath]
  | i + 1 => by
    have := gath_len low L frm to i
    have := listK_len (atS low L ((low : Int) + (i : Int) + 1)) 7
    simp only [gath, List.length_append]
    split <;> simp <;> omega

theorem atS_bd {low : Nat} {L : List Int} (hok : ChnOk low L) (s : Int) : 0 ≤ atS low L s ∧ atS low L s ≤ 127 := by
  unfold atS
  split
  · rw [List.getD]
    rcases h : L[(bh s - (low : Int)).toNat]? with _ | x
    · simp
    · have := hok.2.2 x (List.mem_of_getElem? h)
      simp; omega
  · omega

def rspanPre (w : World) (low n : Nat) (A : Option Addr) (c : Nat) (l : List Int) (v : Value) (wr : World) : Prop :=
  Upd (fun _ => False) w wr ∧ Blk wr w.heap.size 36 #[.int .u64 (low : Int), .slice A n c] ∧ wr.ownsRow 0 5 1 v l.length (l.map (Value.int .u8)) ∧ (∀ g, v.ownBlock = some g → w.heap.size + 1 ≤ g)

set_option maxRecDepth 100000 in
set_option maxHeartbeats 4000000 in
theorem rspan_any {w : World} {G : Nat → Prop} {v : Value} {low : Nat} {L : List Int} (h : RCh w G v low L) (hok : ChnOk low L) (hl : L.length ≤ 1000) (frm to : Int) (hf0 : 0 ≤ frm) (hf1 : frm ≤ 18446744073709551615) (ht0 : 0 ≤ to) (ht1 : to ≤ 18446744073709551615) :
    Calls Try.prog 30 #[v, .int .u64 frm, .int .u64 to] w fun e w' => e = .returned (.int .u8 (setK (gath low L frm to (L.length + 3)) 7)) ∧ Upd (fun _ => False) w w' := by
  obtain ⟨i0, hi0, hz0, hz1, hz2⟩ := info_parts infoU8
  have hA := fun wx (hu : Upd (fun _ => False) w wx) s h0 h1 => rat_any (h.still hu) hok s h0 h1
  have hAS := fun s => atS_bd hok s
  obtain ⟨A, c, rfl, hs⟩ := h
  obtain ⟨k0, k1, k2⟩ := hok
  have HAT := Lib.hid hA
  have HAS := Lib.hid hAS
  have HGL := Lib.hid (gath_len low L frm to)
  obtain ⟨gg, hgg⟩ : ∃ gg, gg = gath low L frm to := ⟨_, rfl⟩
  have HGS : Hid (∀ i, gg (i + 1) = gg i ++ if atB low L ((low : Int) + (i : Int) + 1) = true ∧ frm ≤ (low : Int) + (i : Int) + 1 ∧ (low : Int) + (i : Int) + 1 ≤ to then listK (atS low L ((low : Int) + (i : Int) + 1)) 7 else []) := fun i => by rw [hgg]; rfl
  have HG0 : Hid (gg 0 = []) := by show _ = _; rw [hgg]; rfl
  rw [← hgg] at HGL ⊢
  clear hA hAS k2 hs hgg
  generalize L.length = n at *
  have k1' : (low : Int) + (n : Int) ≤ 4611686018427387905 := by omega
  have hl' : (n : Int) ≤ 1000 := by omega
  go_enter Try.func30, Try.ntmps30
  go_wp2_with fail
  go_loopw [7, 8] (fun v i wr => ∃ k : Nat, k ≤ n + 3 ∧ i = .int .i64 k ∧ rspanPre w low n A c (gg k) v wr) (fun _ i _ => n + 3 - (intOf i).toNat)
  case atStart => exact ⟨0, Nat.zero_le _, rfl, (Upd.refl _ w).alloc _, Blk.new _ _ _, by rw [HG0.out]; exact World.ownsRow_nil _ _ _ _, fun g hg => by simp [Value.ownBlock] at hg⟩
  case round =>
    obtain ⟨k, hk, rfl, hu, hb, ho, hv⟩ := hrel
    obtain ⟨A1, c1, rfl, _, hcv⟩ := own_shape ho
    have d0 : wr.cell? ⟨w.heap.size, 0, none⟩ = some (.int .u64 (low : Int)) := hb.cell 0
    have d1 : wr.cell? ⟨w.heap.size, 1, none⟩ = some (.slice A n c) := hb.cell 1
    have HU := Lib.hid hu
    have HB := Lib.hid hb
    have HO := Lib.hid ho
    have HV := Lib.hid hv
    have hgl := HGL.out k
    have hgs := HGS.out k
    clear hu hb ho hv
    by_cases hlt : k < n + 3
    · have e5 : (k : Int) < (n : Int) + 3 := by omega
      have HA := Lib.hid (HAT.out wr HU.out ((low : Int) + (k : Int) + 1) (by omega) (by omega))
      have hsb := HAS.out ((low : Int) + (k : Int) + 1)
      generalize atS low L ((low : Int) + (k : Int) + 1) = sv at *
      have keep : (gg (k + 1) = gg k) → ∀ (wz : World), Upd (fun _ => False) wr wz → rspanPre w low n A c (gg (k + 1)) (.slice A1 (gg k).length c1) wz := fun e wz hu => by
        rw [e]
        exact ⟨HU.out.trans hu (fun _ _ h => h), HB.out.upd hu id, own_upd HO.out hu (fun _ _ => id), HV.out⟩
      have HK := Lib.hid keep
      clear keep
      by_cases hb : atB low L ((low : Int) + (k : Int) + 1) = true
      · rw [hb] at HA
        by_cases hf : frm ≤ (low : Int) + (k : Int) + 1
        · by_cases ht : (low : Int) + (k : Int) + 1 ≤ to
          · rw [if_pos ⟨hb, hf, ht⟩] at hgs
            have HGS2 := Lib.hid hgs
            have HLL := Lib.hid (listK_len sv 7)
            have HLI := Lib.hid (fun wx => list_any sv wx (by omega) (by omega))
            clear hgs hb
            go_wp2_with fail
            refine HA.out.mono ?_
            rintro e w2 ⟨rfl, hu2⟩
            have HU2 := Lib.hid hu2
            have e0 : w2.cell? ⟨w.heap.size, 0, none⟩ = some (.int .u64 (low : Int)) := (HB.out.upd hu2 id).cell 0
            have e1 : w2.cell? ⟨w.heap.size, 1, none⟩ = some (.slice A n c) := (HB.out.upd hu2 id).cell 1
            clear hu2
            go_wp2_with fail
            refine (HLI.out _).mono ?_
            rintro e w3 ⟨v3, rfl, ho3, hu3, hv3⟩
            obtain ⟨A3, c3, rfl, _, hc3⟩ := own_shape ho3
            have hl3 := HLL.out
            have HU3 := Lib.hid hu3
            have HO3 := Lib.hid ho3
            clear hu3 ho3 hv3
            generalize listK sv 7 = ls at *
            go_wp2_with (first
              | (at_builtin
                 go_must (refine wpList_append_sl _ rfl (.tmp 43) (.tmp 45) _ rfl 5 i0 (.int .u8 0) 1 1 Try.underlying22 hi0 hz0 hz1 hz2 rfl (by omega) (.slice A1 (gg k).length c1) (gg k).length ((gg k).map (Value.int .u8)) rfl (own_upd HO.out (HU2.out.trans HU3.out (fun _ _ h => h)) (fun _ _ => id)) _ _ ls.length (ls.map (Value.int .u8)) rfl (Sl.own HO3.out) (ones_one .u8 ls) (by simp only [maxLen]; omega) (by omega) ?_)
                 intro v4 w4 hown4 hg4 hat4))
            go_roundw
            case rel =>
              have hu23 := HU2.out.trans HU3.out (fun _ _ h => h)
              have hsz := (HU.out.trans hu23 (fun _ _ h => h)).size
              have hbl := HB.out.lt
              have hbl3 := hu23.size
              refine ⟨k + 1, by omega, by go_num, (HU.out.trans hu23 (fun _ _ h => h)).grown hg4 (fun q hq => .inr (by have := HV.out q hq; omega)), (HB.out.upd hu23 id).grown hg4 (fun e => by have := HV.out _ e.symm; omega), ?_, ?_⟩
              · rw [HGS2.out]; simpa using hown4
              · intro q hq
                rcases hat4 with h | h
                · rw [h] at hq; exact HV.out q hq
                · rw [h] at hq
                  have := Option.some.inj hq
                  omega
            case measure => simp [intOf]; omega
          · have hgs' : gg (k + 1) = gg k := by rw [hgs, if_neg (fun h => ht h.2.2), List.append_nil]
            have HKK := Lib.hid (HK.out hgs')
            have ht' : decide ((low : Int) + (k : Int) + 1 ≤ to) = false := decide_eq_false ht
            clear hgs hgs' hb ht
            go_wp2_with fail
            refine HA.out.mono ?_
            rintro e w2 ⟨rfl, hu2⟩
            have HP := Lib.hid (HKK.out w2 hu2)
            clear hu2
            go_wp2_with fail
            go_roundw
            case rel => exact ⟨k + 1, by omega, by go_num, HP.out⟩
            case measure => simp [intOf]; omega
        · have hgs' : gg (k + 1) = gg k := by rw [hgs, if_neg (fun h => hf h.2.1), List.append_nil]
          have HKK := Lib.hid (HK.out hgs')
          have hf' : decide (frm ≤ (low : Int) + (k : Int) + 1) = false := decide_eq_false hf
          clear hgs hgs' hb hf
          go_wp2_with fail
          refine HA.out.mono ?_
          rintro e w2 ⟨rfl, hu2⟩
          have HP := Lib.hid (HKK.out w2 hu2)
          clear hu2
          go_wp2_with fail
          go_roundw
          case rel => exact ⟨k + 1, by omega, by go_num, HP.out⟩
          case measure => simp [intOf]; omega
      · have hb' : atB low L ((low : Int) + (k : Int) + 1) = false := by simpa using hb
        rw [hb'] at HA
        have hgs' : gg (k + 1) = gg k := by rw [hgs, if_neg (fun h => hb h.1), List.append_nil]
        have HKK := Lib.hid (HK.out hgs')
        clear hgs hgs' hb hb'
        go_wp2_with fail
        refine HA.out.mono ?_
        rintro e w2 ⟨rfl, hu2⟩
        have HP := Lib.hid (HKK.out w2 hu2)
        clear hu2
        go_wp2_with fail
        go_roundw
        case rel => exact ⟨k + 1, by omega, by go_num, HP.out⟩
        case measure => simp [intOf]; omega
    · have hkn : k = n + 3 := by omega
      subst hkn
      have HS := Lib.hid (set_any (.slice A1 (gg (n + 3)).length c1) _ (gg (n + 3)) wr _ (Sl.own HO.out) (by omega))
      clear hgs
      go_wp2_with fail
      refine HS.out.mono ?_
      rintro e w2 ⟨rfl, rfl⟩
      go_wp2_with fail
      go_ret
      exact ⟨rfl, HU.out⟩
end Go.Proofs.Ytkcehpnppfmfnaa
