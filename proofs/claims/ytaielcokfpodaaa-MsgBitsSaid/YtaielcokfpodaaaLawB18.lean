/-
  Layers 9 and 18: what is too great to be looked at. Conditions: none.
-/
import Derived.Test.YtaielcokfpodaaaMsgO
namespace Go.Proofs.Ytaielcokfpodaaa
open Go.RowKit

def gr09 (c : Cm) : Bool := decide (300 < c.key.length) || decide (300 < c.old.length) || decide (300 < c.new.length)
def greatM (m : Ms) : Bool := decide (100 < m.votes.length) || decide (100 < m.items.length) || decide (300 < m.val.length) || decide (300 < m.text.length) || gr09 m.cmd || m.votes.any (fun v => decide (300 < v.val.length)) || m.items.any (fun v => decide (300 < v.val.length))
theorem all_snoc_no {α : Type} {f : α → Bool} {l : List α} {k : Nat} (h : k < l.length) (ha : (l.take k).any f = false) (hk : f l[k] = false) : (l.take (k + 1)).any f = false := by
  rw [List.take_succ_eq_append_getElem h, List.any_append, ha]
  simp [hk]
theorem any_at {α : Type} {f : α → Bool} {l : List α} {k : Nat} (h : k < l.length) (hk : f l[k] = true) : l.any f = true := List.any_eq_true.2 ⟨_, List.getElem_mem h, hk⟩

set_option maxHeartbeats 2000000 in
theorem great09_any (c : Cm) (hk : c.key.length ≤ maxLen ∧ c.old.length ≤ maxLen ∧ c.new.length ≤ maxLen) {w : World} {g : Nat} (hb : Blk w g 30 (cmdCells c)) :
    Calls Try.prog 20 #[.slice (some ⟨g, 0, none⟩) 1 1] w fun e w' => e = .returned (.bool (gr09 c)) ∧ w = w' := by
  obtain ⟨client, seq, ckind, key, old, new, cset⟩ := c
  unfold cmdCells at hb
  unfold gr09
  dsimp only at hk hb ⊢
  have z3 : w.cell? ⟨g, 3, none⟩ = some (.string (strOfNums key)) := hb.cell 3
  have z4 : w.cell? ⟨g, 4, none⟩ = some (.string (strOfNums old)) := hb.cell 4
  have z5 : w.cell? ⟨g, 5, none⟩ = some (.string (strOfNums new)) := hb.cell 5
  have s3 : (strOfNums key).size = key.length := strOfNums_size key
  have s4 : (strOfNums old).size = old.length := strOfNums_size old
  have s5 : (strOfNums new).size = new.length := strOfNums_size new
  unfold maxLen at hk
  obtain ⟨k1, k2, k3⟩ := hk
  clear hb
  by_cases d0 : 300 < key.length
  case pos =>
    have h0 : ((300 : Int) < (key.length : Int)) := by omega
    rw [decide_eq_true d0]
    simp only [Bool.true_or]
    clear d0
    go_enter Try.func20, Try.ntmps20
    go_wp2_with fail
    go_loop [3] (fun i => i = .int .i64 0) (fun _ => 0)
    case atStart => rfl
    case round =>
      subst hrel
      go_wp2_with fail
      go_ret
      exact ⟨rfl, rfl⟩
  have h0 : ¬ ((300 : Int) < (key.length : Int)) := by omega
  have hd0 : decide ((300 : Int) < (key.length : Int)) = false := decide_eq_false h0
  rw [decide_eq_false d0]
  clear d0 h0
  by_cases d1 : 300 < old.length
  case pos =>
    have h1 : ((300 : Int) < (old.length : Int)) := by omega
    rw [decide_eq_true d1]
    simp only [Bool.true_or, Bool.or_true]
    clear d1
    go_enter Try.func20, Try.ntmps20
    go_wp2_with fail
    go_loop [3] (fun i => i = .int .i64 0) (fun _ => 0)
    case atStart => rfl
    case round =>
      subst hrel
      go_wp2_with fail
      go_ret
      exact ⟨rfl, rfl⟩
  have h1 : ¬ ((300 : Int) < (old.length : Int)) := by omega
  have hd1 : decide ((300 : Int) < (old.length : Int)) = false := decide_eq_false h1
  rw [decide_eq_false d1]
  clear d1 h1
  by_cases d2 : 300 < new.length
  case pos =>
    have h2 : ((300 : Int) < (new.length : Int)) := by omega
    rw [decide_eq_true d2]
    simp only [Bool.or_true]
    clear d2
    go_enter Try.func20, Try.ntmps20
    go_wp2_with fail
    go_loop [3] (fun i => i = .int .i64 0) (fun _ => 0)
    case atStart => rfl
    case round =>
      subst hrel
      go_wp2_with fail
      go_ret
      exact ⟨rfl, rfl⟩
  have h2 : ¬ ((300 : Int) < (new.length : Int)) := by omega
  have hd2 : decide ((300 : Int) < (new.length : Int)) = false := decide_eq_false h2
  rw [decide_eq_false d2]
  clear d2 h2
  simp only [Bool.or_self]
  go_enter Try.func20, Try.ntmps20
  go_wp2_with fail
  go_loop [3] (fun i => ∃ k : Nat, k ≤ 1 ∧ i = .int .i64 k) (fun i => 1 - (intOf i).toNat)
  case atStart => exact ⟨0, by omega, rfl⟩
  case round =>
    obtain ⟨k, hk, rfl⟩ := hrel
    by_cases hlt : k < 1
    · obtain rfl : k = 0 := by omega
      go_wp2_with fail
      go_round
      case rel => exact ⟨1, by omega, by go_num⟩
      case measure => simp [intOf]
    · obtain rfl : k = 1 := by omega
      go_wp2_with fail
      go_ret
      exact ⟨rfl, rfl⟩

set_option maxRecDepth 100000 in
set_option maxHeartbeats 8000000 in
theorem great_any {w : World} {G : Nat → Prop} (m : Ms) (hw : RawM m) {vv vi : Value} (hm : Lists w G m vv vi) :
    Calls Try.prog 10 #[msV m vv vi] w fun e w' => e = .returned (.bool (greatM m)) ∧ Upd (fun _ => False) w w' := by
  obtain ⟨Av, cv, rfl, hcv, _⟩ := hm.votes.shape
  obtain ⟨Ai, ci, rfl, hci, _⟩ := hm.items.shape
  obtain ⟨hv, hi⟩ := hm
  have HGV := Lib.hid (fun v (h : v ∈ m.votes) => (hw.votes.2 v h).val)
  have HGI := Lib.hid (fun v (h : v ∈ m.items) => (hw.items.2 v h).val)
  have k1 := hw.val.2
  have k2 := hw.text.2
  have k3 := hw.votes.1
  have k4 := hw.items.1
  have HC := Lib.hid (fun (wx : World) (g : Nat) (hb : Blk wx g 30 (cmdCells m.cmd)) => great09_any m.cmd ⟨hw.cmd.key, hw.cmd.old, hw.cmd.new⟩ hb)
  obtain ⟨R, hR⟩ : ∃ R, greatM m = R := ⟨_, rfl⟩
  have HR := Lib.hid hR
  rw [hR]
  unfold greatM at HR
  obtain ⟨g9, hg9⟩ : ∃ g9, gr09 m.cmd = g9 := ⟨_, rfl⟩
  rw [hg9] at HC HR
  clear hw hR hg9
  obtain ⟨kind, bn, br, base, slot, node, val, votes, items, ⟨client, seq, ckind, key, old, new, cset⟩, code, text⟩ := m
  unfold msV msCells
  unfold cmdCells at HC
  dsimp only at HC HR HGV HGI k1 k2 k3 k4 hv hi ⊢
  have s1 : (strOfNums val).size = val.length := strOfNums_size val
  have s2 : (strOfNums text).size = text.length := strOfNums_size text
  obtain ⟨N1, hN1⟩ : ∃ N, votes.length = N := ⟨_, rfl⟩
  obtain ⟨N2, hN2⟩ : ∃ N, items.length = N := ⟨_, rfl⟩
  rw [hN1] at hv HR k3 ⊢
  rw [hN2] at hi HR k4 ⊢
  have HN1 := Lib.hid hN1
  have HN2 := Lib.hid hN2
  have HVx := Lib.hid hv
  have HIx := Lib.hid hi
  unfold maxLen at k1 k2 k3 k4
  clear hv hi hN1 hN2
  by_cases d0 : 100 < N1
  case pos =>
    have h0 : ((100 : Int) < (N1 : Int)) := by omega
    have hRt : R = true := by rw [← HR.out, decide_eq_true d0]; simp
    subst hRt
    clear d0
    go_enter Try.func10, Try.ntmps10
    go_wp2_with fail
    go_ret
    exact ⟨rfl, (Upd.refl _ _).alloc _⟩
  have h0 : (N1 : Int) ≤ 100 := by omega
  have hd0 : decide ((100 : Int) < (N1 : Int)) = false := decide_eq_false (by omega)
  rw [decide_eq_false d0] at HR
  clear d0
  by_cases d1 : 100 < N2
  case pos =>
    have h1 : ((100 : Int) < (N2 : Int)) := by omega
    have hRt : R = true := by rw [← HR.out, decide_eq_true d1]; simp
    subst hRt
    clear d1
    go_enter Try.func10, Try.ntmps10
    go_wp2_with fail
    go_ret
    exact ⟨rfl, (Upd.refl _ _).alloc _⟩
  have h1 : (N2 : Int) ≤ 100 := by omega
  have hd1 : decide ((100 : Int) < (N2 : Int)) = false := decide_eq_false (by omega)
  rw [decide_eq_false d1] at HR
  clear d1
  by_cases d2 : 300 < val.length
  case pos =>
    have h2 : ((300 : Int) < (val.length : Int)) := by omega
    have hRt : R = true := by rw [← HR.out, decide_eq_true d2]; simp
    subst hRt
    clear d2
    go_enter Try.func10, Try.ntmps10
    go_wp2_with fail
    go_ret
    exact ⟨rfl, (Upd.refl _ _).alloc _⟩
  have h2 : (val.length : Int) ≤ 300 := by omega
  have hd2 : decide ((300 : Int) < (val.length : Int)) = false := decide_eq_false (by omega)
  rw [decide_eq_false d2] at HR
  clear d2
  by_cases d3 : 300 < text.length
  case pos =>
    have h3 : ((300 : Int) < (text.length : Int)) := by omega
    have hRt : R = true := by rw [← HR.out, decide_eq_true d3]; simp
    subst hRt
    clear d3
    go_enter Try.func10, Try.ntmps10
    go_wp2_with fail
    go_ret
    exact ⟨rfl, (Upd.refl _ _).alloc _⟩
  have h3 : (text.length : Int) ≤ 300 := by omega
  have hd3 : decide ((300 : Int) < (text.length : Int)) = false := decide_eq_false (by omega)
  rw [decide_eq_false d3] at HR
  clear d3
  go_enter Try.func10, Try.ntmps10
  go_upto_region 1 with fail
  have hb1 := Blk.new w 34 #[.int .u8 kind, .int .u64 bn, .int .u8 br, .int .u64 base, .int .u64 slot, .int .u8 node, .string (strOfNums val), .slice Av N1 cv, .slice Ai N2 ci, .int .u8 client, .int .u32 seq, .int .u8 ckind, .string (strOfNums key), .string (strOfNums old), .string (strOfNums new), .int .u8 cset, .int .u8 code, .string (strOfNums text)]
  have hu0 : Upd (fun _ => False) w (w.alloc (.cells #[.int .u8 kind, .int .u64 bn, .int .u8 br, .int .u64 base, .int .u64 slot, .int .u8 node, .string (strOfNums val), .slice Av N1 cv, .slice Ai N2 ci, .int .u8 client, .int .u32 seq, .int .u8 ckind, .string (strOfNums key), .string (strOfNums old), .string (strOfNums new), .int .u8 cset, .int .u8 code, .string (strOfNums text)] 34)) := (Upd.refl _ _).alloc _
  generalize w.alloc (.cells #[.int .u8 kind, .int .u64 bn, .int .u8 br, .int .u64 base, .int .u64 slot, .int .u8 node, .string (strOfNums val), .slice Av N1 cv, .slice Ai N2 ci, .int .u8 client, .int .u32 seq, .int .u8 ckind, .string (strOfNums key), .string (strOfNums old), .string (strOfNums new), .int .u8 cset, .int .u8 code, .string (strOfNums text)] 34) = w0 at *
  have HB1 := Lib.hid hb1
  have HU0 := Lib.hid hu0
  have y7 : w0.cell? ⟨w.heap.size, 7, none⟩ = some (.slice Av N1 cv) := hb1.cell 7
  have y8 : w0.cell? ⟨w.heap.size, 8, none⟩ = some (.slice Ai N2 ci) := hb1.cell 8
  have y6 : w0.cell? ⟨w.heap.size, 6, none⟩ = some (.string (strOfNums val)) := hb1.cell 6
  have y17 : w0.cell? ⟨w.heap.size, 17, none⟩ = some (.string (strOfNums text)) := hb1.cell 17
  have y9 : w0.cell? ⟨w.heap.size, 9, none⟩ = some (.int .u8 client) := hb1.cell 9
  have y10 : w0.cell? ⟨w.heap.size, 10, none⟩ = some (.int .u32 seq) := hb1.cell 10
  have y11 : w0.cell? ⟨w.heap.size, 11, none⟩ = some (.int .u8 ckind) := hb1.cell 11
  have y12 : w0.cell? ⟨w.heap.size, 12, none⟩ = some (.string (strOfNums key)) := hb1.cell 12
  have y13 : w0.cell? ⟨w.heap.size, 13, none⟩ = some (.string (strOfNums old)) := hb1.cell 13
  have y14 : w0.cell? ⟨w.heap.size, 14, none⟩ = some (.string (strOfNums new)) := hb1.cell 14
  have y15 : w0.cell? ⟨w.heap.size, 15, none⟩ = some (.int .u8 cset) := hb1.cell 15
  clear hb1 hu0
  go_wp2_with fail
  have hbc := Blk.new w0 30 #[.int .u8 client, .int .u32 seq, .int .u8 ckind, .string (strOfNums key), .string (strOfNums old), .string (strOfNums new), .int .u8 cset]
  have HU1 : Hid (Upd (fun _ => False) w0 (w0.alloc (.cells #[.int .u8 client, .int .u32 seq, .int .u8 ckind, .string (strOfNums key), .string (strOfNums old), .string (strOfNums new), .int .u8 cset] 30))) := (Upd.refl _ _).alloc _
  refine (HC.out _ _ hbc).mono ?_
  rintro e w1 ⟨rfl, rfl⟩
  clear hbc
  generalize w0.alloc (.cells #[.int .u8 client, .int .u32 seq, .int .u8 ckind, .string (strOfNums key), .string (strOfNums old), .string (strOfNums new), .int .u8 cset] 30) = w1 at *
  clear y6 y7 y8 y17 y9 y10 y11 y12 y13 y14 y15
  cases g9
  case true =>
    have hRt : R = true := by rw [← HR.out]; simp
    subst hRt
    go_wp2_with fail
    go_ret
    exact ⟨rfl, HU0.out.trans HU1.out (fun _ _ h => h)⟩
  have HU := Lib.hid (HU0.out.trans HU1.out (fun _ _ h => h))
  have HB := Lib.hid (HB1.out.upd HU1.out id)
  have HV := Lib.hid (HVx.out.upd HU.out (fun _ _ h => h))
  have HI := Lib.hid (HIx.out.upd HU.out (fun _ _ h => h))
  have z7 : w1.cell? ⟨w.heap.size, 7, none⟩ = some (.slice Av N1 cv) := HB.out.cell 7
  have z8 : w1.cell? ⟨w.heap.size, 8, none⟩ = some (.slice Ai N2 ci) := HB.out.cell 8
  go_wp2_with fail
  go_loop [3] (fun i => ∃ k : Nat, k ≤ N1 ∧ i = .int .i64 k ∧ (votes.take k).any (fun v => decide (300 < v.val.length)) = false) (fun i => N1 - (intOf i).toNat)
  case atStart => exact ⟨0, Nat.zero_le _, rfl, by simp⟩
  case round =>
    obtain ⟨k, hk, rfl, ht⟩ := hrel
    have HT := Lib.hid ht
    clear ht
    by_cases hlt : k < N1
    · have hka : k < votes.length := by rw [HN1.out]; exact hlt
      obtain ⟨b1, o1, hav, hc1⟩ := HV.out.row_ (Upd.refl (fun _ => False) _) (fun _ _ h => h) hlt (vt_at votes k hka) rfl
      have hx := HGV.out votes[k] (List.getElem_mem hka)
      have hyes := fun (h : decide (300 < votes[k].val.length) = true) => any_at (f := fun v => decide (300 < v.val.length)) hka h
      have hno := fun (h : decide (300 < votes[k].val.length) = false) => all_snoc_no (f := fun v => decide (300 < v.val.length)) hka HT.out h
      generalize votes[k] = x at *
      have ec : w1.cell? ⟨b1, o1 + k * 4 + 3, none⟩ = some (.string (strOfNums x.val)) := hc1 3 _ rfl
      have sx : (strOfNums x.val).size = x.val.length := strOfNums_size _
      have hxl := hx.2
      unfold maxLen at hxl
      have HY := Lib.hid hyes
      have HNO := Lib.hid hno
      subst hav
      clear hc1 hx hyes hno hka
      by_cases hbig : 300 < x.val.length
      · have hRt : R = true := by
          rw [← HR.out, HY.out (decide_eq_true hbig)]
          simp
        subst hRt
        have hbi : ((300 : Int) < (x.val.length : Int)) := by omega
        clear hbig
        go_wp2_with fail
        go_ret
        exact ⟨rfl, HU.out⟩
      · have hbi : decide ((300 : Int) < (x.val.length : Int)) = false := decide_eq_false (by omega)
        have HN0 := Lib.hid (HNO.out (decide_eq_false hbig))
        clear hbig
        go_wp2_with fail
        go_round
        case rel => exact ⟨k + 1, by omega, by go_num, HN0.out⟩
        case measure => simp [intOf]; omega
    · have hke : k = N1 := by omega
      subst hke
      have he := HT.out
      rw [List.take_of_length_le (by rw [HN1.out]; exact Nat.le_refl _)] at he
      have HE1 := Lib.hid he
      clear he hk hlt HT
      go_wp2_with fail
      go_loop [4] (fun i => ∃ k : Nat, k ≤ N2 ∧ i = .int .i64 k ∧ (items.take k).any (fun v => decide (300 < v.val.length)) = false) (fun i => N2 - (intOf i).toNat)
      case atStart => exact ⟨0, Nat.zero_le _, rfl, by simp⟩
      case round =>
        obtain ⟨k, hk, rfl, ht⟩ := hrel
        have HT := Lib.hid ht
        clear ht
        by_cases hlt : k < N2
        · have hka : k < items.length := by rw [HN2.out]; exact hlt
          obtain ⟨b1, o1, hav, hc1⟩ := HI.out.row_ (Upd.refl (fun _ => False) _) (fun _ _ h => h) hlt (it_at items k hka) rfl
          have hx := HGI.out items[k] (List.getElem_mem hka)
          have hyes := fun (h : decide (300 < items[k].val.length) = true) => any_at (f := fun v => decide (300 < v.val.length)) hka h
          have hno := fun (h : decide (300 < items[k].val.length) = false) => all_snoc_no (f := fun v => decide (300 < v.val.length)) hka HT.out h
          generalize items[k] = x at *
          have ec : w1.cell? ⟨b1, o1 + k * 2 + 1, none⟩ = some (.string (strOfNums x.val)) := hc1 1 _ rfl
          have sx : (strOfNums x.val).size = x.val.length := strOfNums_size _
          have hxl := hx.2
          unfold maxLen at hxl
          have HY := Lib.hid hyes
          have HNO := Lib.hid hno
          subst hav
          clear hc1 hx hyes hno hka
          by_cases hbig : 300 < x.val.length
          · have hRt : R = true := by
              rw [← HR.out, HY.out (decide_eq_true hbig)]
              simp
            subst hRt
            have hbi : ((300 : Int) < (x.val.length : Int)) := by omega
            clear hbig
            go_wp2_with fail
            go_ret
            exact ⟨rfl, HU.out⟩
          · have hbi : decide ((300 : Int) < (x.val.length : Int)) = false := decide_eq_false (by omega)
            have HN0 := Lib.hid (HNO.out (decide_eq_false hbig))
            clear hbig
            go_wp2_with fail
            go_round
            case rel => exact ⟨k + 1, by omega, by go_num, HN0.out⟩
            case measure => simp [intOf]; omega
        · have hke : k = N2 := by omega
          subst hke
          have he := HT.out
          rw [List.take_of_length_le (by rw [HN2.out]; exact Nat.le_refl _)] at he
          have hRf : R = false := by
            rw [← HR.out, HE1.out, he]
            simp
          subst hRf
          clear he hk hlt
          go_wp2_with fail
          go_ret
          exact ⟨rfl, HU.out⟩
end Go.Proofs.Ytaielcokfpodaaa
