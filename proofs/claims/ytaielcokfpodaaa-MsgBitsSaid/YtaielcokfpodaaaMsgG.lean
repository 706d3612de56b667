/-
  Layer 18, messages: what moves parts. Conditions: lists of at most 10^6.
-/
import Derived.Test.YtaielcokfpodaaaMsgF
import Derived.Lib.SliceRun
namespace Go.Proofs.Ytaielcokfpodaaa
open Go.RowKit

set_option maxRecDepth 100000 in
set_option maxHeartbeats 2000000 in
theorem wh_move {w : World} {g : Nat} (m tt : Ms) {Av Ai Bv Bi : Option Addr} {nv cv ni ci n1 c1 n2 c2 : Nat} (hM : Blk w g 34 (msCells tt (.slice Bv n1 c1) (.slice Bi n2 c2))) :
    Calls Try.prog 45 #[.pointer (some ⟨g, 0, none⟩), msV m (.slice Av nv cv) (.slice Ai ni ci)] w fun e w' => e = .returned (.tuple #[]) ∧ Blk w' g 34 (msCells (ptMove m tt .whole) (.slice Bv n1 c1) (.slice Bi n2 c2)) ∧ Upd (fun j => j = g) w w' := by
  have HM := Lib.hid hM
  obtain ⟨kind, bn, br, base, slot, node, val, votes, items, ⟨client, seq, ckind, key, old, new, cset⟩, code, text⟩ := m
  obtain ⟨tkind, tbn, tbr, tbase, tslot, tnode, tval, tvotes, titems, ⟨tclient, tseq, tckind, tkey, told, tnew, tcset⟩, tcode, ttext⟩ := tt
  unfold msV msCells ptMove
  dsimp only
  unfold msCells at HM
  dsimp only at HM
  clear hM
  go_enter Try.func45, Try.ntmps45
  go_upto_region 1 with fail
  have hb0 := Blk.new w 34 #[.int .u8 kind, .int .u64 bn, .int .u8 br, .int .u64 base, .int .u64 slot, .int .u8 node, .string (strOfNums val), .slice Av nv cv, .slice Ai ni ci, .int .u8 client, .int .u32 seq, .int .u8 ckind, .string (strOfNums key), .string (strOfNums old), .string (strOfNums new), .int .u8 cset, .int .u8 code, .string (strOfNums text)]
  have hw0 : Upd (fun _ => False) w (w.alloc (.cells #[.int .u8 kind, .int .u64 bn, .int .u8 br, .int .u64 base, .int .u64 slot, .int .u8 node, .string (strOfNums val), .slice Av nv cv, .slice Ai ni ci, .int .u8 client, .int .u32 seq, .int .u8 ckind, .string (strOfNums key), .string (strOfNums old), .string (strOfNums new), .int .u8 cset, .int .u8 code, .string (strOfNums text)] 34)) := (Upd.refl _ _).alloc _
  have hb := HM.out.alloc (.cells #[.int .u8 kind, .int .u64 bn, .int .u8 br, .int .u64 base, .int .u64 slot, .int .u8 node, .string (strOfNums val), .slice Av nv cv, .slice Ai ni ci, .int .u8 client, .int .u32 seq, .int .u8 ckind, .string (strOfNums key), .string (strOfNums old), .string (strOfNums new), .int .u8 cset, .int .u8 code, .string (strOfNums text)] 34)
  generalize w.alloc (.cells #[.int .u8 kind, .int .u64 bn, .int .u8 br, .int .u64 base, .int .u64 slot, .int .u8 node, .string (strOfNums val), .slice Av nv cv, .slice Ai ni ci, .int .u8 client, .int .u32 seq, .int .u8 ckind, .string (strOfNums key), .string (strOfNums old), .string (strOfNums new), .int .u8 cset, .int .u8 code, .string (strOfNums text)] 34) = w0 at *
  have l9 : w0.cell? ⟨w.heap.size, 9, none⟩ = some (.int .u8 client) := hb0.cell 9
  have l10 : w0.cell? ⟨w.heap.size, 10, none⟩ = some (.int .u32 seq) := hb0.cell 10
  have l11 : w0.cell? ⟨w.heap.size, 11, none⟩ = some (.int .u8 ckind) := hb0.cell 11
  have l12 : w0.cell? ⟨w.heap.size, 12, none⟩ = some (.string (strOfNums key)) := hb0.cell 12
  have l13 : w0.cell? ⟨w.heap.size, 13, none⟩ = some (.string (strOfNums old)) := hb0.cell 13
  have l14 : w0.cell? ⟨w.heap.size, 14, none⟩ = some (.string (strOfNums new)) := hb0.cell 14
  have l15 : w0.cell? ⟨w.heap.size, 15, none⟩ = some (.int .u8 cset) := hb0.cell 15
  have f9 : w0.cell? ⟨g, 9, none⟩ = some (.int .u8 tclient) := hb.cell 9
  have z9 := hb.frozen 9
  have f10 : w0.cell? ⟨g, 10, none⟩ = some (.int .u32 tseq) := hb.cell 10
  have z10 := hb.frozen 10
  have f11 : w0.cell? ⟨g, 11, none⟩ = some (.int .u8 tckind) := hb.cell 11
  have z11 := hb.frozen 11
  have f12 : w0.cell? ⟨g, 12, none⟩ = some (.string (strOfNums tkey)) := hb.cell 12
  have z12 := hb.frozen 12
  have f13 : w0.cell? ⟨g, 13, none⟩ = some (.string (strOfNums told)) := hb.cell 13
  have z13 := hb.frozen 13
  have f14 : w0.cell? ⟨g, 14, none⟩ = some (.string (strOfNums tnew)) := hb.cell 14
  have z14 := hb.frozen 14
  have f15 : w0.cell? ⟨g, 15, none⟩ = some (.int .u8 tcset) := hb.cell 15
  have z15 := hb.frozen 15
  have HB := Lib.hid hb
  have HW := Lib.hid hw0
  have hgne : w.heap.size ≠ g := by have := HM.out.lt; omega
  have hgne2 : g ≠ w.heap.size := by omega
  clear hb hb0 hw0
  go_wp2_with fail
  go_end0
  refine ⟨rfl, ?_, ?_⟩
  · simpa using (((((((HB.out.set_ 9 (.int .u8 client)).set_ 10 (.int .u32 seq)).set_ 11 (.int .u8 ckind)).set_ 12 (.string (strOfNums key))).set_ 13 (.string (strOfNums old))).set_ 14 (.string (strOfNums new))).set_ 15 (.int .u8 cset))
  · exact (upd_sets (F := fun j => j = g) rfl (upd_sets (F := fun j => j = g) rfl (upd_sets (F := fun j => j = g) rfl (upd_sets (F := fun j => j = g) rfl (upd_sets (F := fun j => j = g) rfl (upd_sets (F := fun j => j = g) rfl (upd_sets (F := fun j => j = g) rfl (HW.out.mono (G := fun j => j = g) (fun _ _ h => h.elim)) 9 (.int .u8 client)) 10 (.int .u32 seq)) 11 (.int .u8 ckind)) 12 (.string (strOfNums key))) 13 (.string (strOfNums old))) 14 (.string (strOfNums new))) 15 (.int .u8 cset))

set_option maxRecDepth 100000 in
set_option maxHeartbeats 2000000 in
theorem nm_move {w : World} {g : Nat} (m tt : Ms) {Av Ai Bv Bi : Option Addr} {nv cv ni ci n1 c1 n2 c2 : Nat} (hM : Blk w g 34 (msCells tt (.slice Bv n1 c1) (.slice Bi n2 c2))) :
    Calls Try.prog 51 #[.pointer (some ⟨g, 0, none⟩), msV m (.slice Av nv cv) (.slice Ai ni ci)] w fun e w' => e = .returned (.tuple #[]) ∧ Blk w' g 34 (msCells (ptMove m tt .name) (.slice Bv n1 c1) (.slice Bi n2 c2)) ∧ Upd (fun j => j = g) w w' := by
  have HM := Lib.hid hM
  obtain ⟨kind, bn, br, base, slot, node, val, votes, items, ⟨client, seq, ckind, key, old, new, cset⟩, code, text⟩ := m
  obtain ⟨tkind, tbn, tbr, tbase, tslot, tnode, tval, tvotes, titems, ⟨tclient, tseq, tckind, tkey, told, tnew, tcset⟩, tcode, ttext⟩ := tt
  unfold msV msCells ptMove
  dsimp only
  unfold msCells at HM
  dsimp only at HM
  clear hM
  go_enter Try.func51, Try.ntmps51
  go_upto_region 1 with fail
  have hb0 := Blk.new w 34 #[.int .u8 kind, .int .u64 bn, .int .u8 br, .int .u64 base, .int .u64 slot, .int .u8 node, .string (strOfNums val), .slice Av nv cv, .slice Ai ni ci, .int .u8 client, .int .u32 seq, .int .u8 ckind, .string (strOfNums key), .string (strOfNums old), .string (strOfNums new), .int .u8 cset, .int .u8 code, .string (strOfNums text)]
  have hw0 : Upd (fun _ => False) w (w.alloc (.cells #[.int .u8 kind, .int .u64 bn, .int .u8 br, .int .u64 base, .int .u64 slot, .int .u8 node, .string (strOfNums val), .slice Av nv cv, .slice Ai ni ci, .int .u8 client, .int .u32 seq, .int .u8 ckind, .string (strOfNums key), .string (strOfNums old), .string (strOfNums new), .int .u8 cset, .int .u8 code, .string (strOfNums text)] 34)) := (Upd.refl _ _).alloc _
  have hb := HM.out.alloc (.cells #[.int .u8 kind, .int .u64 bn, .int .u8 br, .int .u64 base, .int .u64 slot, .int .u8 node, .string (strOfNums val), .slice Av nv cv, .slice Ai ni ci, .int .u8 client, .int .u32 seq, .int .u8 ckind, .string (strOfNums key), .string (strOfNums old), .string (strOfNums new), .int .u8 cset, .int .u8 code, .string (strOfNums text)] 34)
  generalize w.alloc (.cells #[.int .u8 kind, .int .u64 bn, .int .u8 br, .int .u64 base, .int .u64 slot, .int .u8 node, .string (strOfNums val), .slice Av nv cv, .slice Ai ni ci, .int .u8 client, .int .u32 seq, .int .u8 ckind, .string (strOfNums key), .string (strOfNums old), .string (strOfNums new), .int .u8 cset, .int .u8 code, .string (strOfNums text)] 34) = w0 at *
  have l9 : w0.cell? ⟨w.heap.size, 9, none⟩ = some (.int .u8 client) := hb0.cell 9
  have l10 : w0.cell? ⟨w.heap.size, 10, none⟩ = some (.int .u32 seq) := hb0.cell 10
  have f9 : w0.cell? ⟨g, 9, none⟩ = some (.int .u8 tclient) := hb.cell 9
  have z9 := hb.frozen 9
  have f10 : w0.cell? ⟨g, 10, none⟩ = some (.int .u32 tseq) := hb.cell 10
  have z10 := hb.frozen 10
  have f11 : w0.cell? ⟨g, 11, none⟩ = some (.int .u8 tckind) := hb.cell 11
  have z11 := hb.frozen 11
  have f12 : w0.cell? ⟨g, 12, none⟩ = some (.string (strOfNums tkey)) := hb.cell 12
  have z12 := hb.frozen 12
  have f13 : w0.cell? ⟨g, 13, none⟩ = some (.string (strOfNums told)) := hb.cell 13
  have z13 := hb.frozen 13
  have f14 : w0.cell? ⟨g, 14, none⟩ = some (.string (strOfNums tnew)) := hb.cell 14
  have z14 := hb.frozen 14
  have f15 : w0.cell? ⟨g, 15, none⟩ = some (.int .u8 tcset) := hb.cell 15
  have z15 := hb.frozen 15
  have HB := Lib.hid hb
  have HW := Lib.hid hw0
  have hgne : w.heap.size ≠ g := by have := HM.out.lt; omega
  have hgne2 : g ≠ w.heap.size := by omega
  clear hb hb0 hw0
  go_wp2_with fail
  go_end0
  refine ⟨rfl, ?_, ?_⟩
  · simpa [strOf_nil] using (((((((HB.out.set_ 9 (.int .u8 client)).set_ 10 (.int .u32 seq)).set_ 11 (.int .u8 0)).set_ 12 (.string { data := #[] })).set_ 13 (.string { data := #[] })).set_ 14 (.string { data := #[] })).set_ 15 (.int .u8 0))
  · exact (upd_sets (F := fun j => j = g) rfl (upd_sets (F := fun j => j = g) rfl (upd_sets (F := fun j => j = g) rfl (upd_sets (F := fun j => j = g) rfl (upd_sets (F := fun j => j = g) rfl (upd_sets (F := fun j => j = g) rfl (upd_sets (F := fun j => j = g) rfl (HW.out.mono (G := fun j => j = g) (fun _ _ h => h.elim)) 9 (.int .u8 client)) 10 (.int .u32 seq)) 11 (.int .u8 0)) 12 (.string { data := #[] })) 13 (.string { data := #[] })) 14 (.string { data := #[] })) 15 (.int .u8 0))

set_option maxRecDepth 100000 in
set_option maxHeartbeats 2000000 in
theorem rp_move {w : World} {g : Nat} (m tt : Ms) {Av Ai Bv Bi : Option Addr} {nv cv ni ci n1 c1 n2 c2 : Nat} (hM : Blk w g 34 (msCells tt (.slice Bv n1 c1) (.slice Bi n2 c2))) :
    Calls Try.prog 57 #[.pointer (some ⟨g, 0, none⟩), msV m (.slice Av nv cv) (.slice Ai ni ci)] w fun e w' => e = .returned (.tuple #[]) ∧ Blk w' g 34 (msCells (ptMove m tt .reply) (.slice Bv n1 c1) (.slice Bi n2 c2)) ∧ Upd (fun j => j = g) w w' := by
  have HM := Lib.hid hM
  obtain ⟨kind, bn, br, base, slot, node, val, votes, items, ⟨client, seq, ckind, key, old, new, cset⟩, code, text⟩ := m
  obtain ⟨tkind, tbn, tbr, tbase, tslot, tnode, tval, tvotes, titems, ⟨tclient, tseq, tckind, tkey, told, tnew, tcset⟩, tcode, ttext⟩ := tt
  unfold msV msCells ptMove
  dsimp only
  unfold msCells at HM
  dsimp only at HM
  clear hM
  go_enter Try.func57, Try.ntmps57
  go_upto_region 1 with fail
  have hb0 := Blk.new w 34 #[.int .u8 kind, .int .u64 bn, .int .u8 br, .int .u64 base, .int .u64 slot, .int .u8 node, .string (strOfNums val), .slice Av nv cv, .slice Ai ni ci, .int .u8 client, .int .u32 seq, .int .u8 ckind, .string (strOfNums key), .string (strOfNums old), .string (strOfNums new), .int .u8 cset, .int .u8 code, .string (strOfNums text)]
  have hw0 : Upd (fun _ => False) w (w.alloc (.cells #[.int .u8 kind, .int .u64 bn, .int .u8 br, .int .u64 base, .int .u64 slot, .int .u8 node, .string (strOfNums val), .slice Av nv cv, .slice Ai ni ci, .int .u8 client, .int .u32 seq, .int .u8 ckind, .string (strOfNums key), .string (strOfNums old), .string (strOfNums new), .int .u8 cset, .int .u8 code, .string (strOfNums text)] 34)) := (Upd.refl _ _).alloc _
  have hb := HM.out.alloc (.cells #[.int .u8 kind, .int .u64 bn, .int .u8 br, .int .u64 base, .int .u64 slot, .int .u8 node, .string (strOfNums val), .slice Av nv cv, .slice Ai ni ci, .int .u8 client, .int .u32 seq, .int .u8 ckind, .string (strOfNums key), .string (strOfNums old), .string (strOfNums new), .int .u8 cset, .int .u8 code, .string (strOfNums text)] 34)
  generalize w.alloc (.cells #[.int .u8 kind, .int .u64 bn, .int .u8 br, .int .u64 base, .int .u64 slot, .int .u8 node, .string (strOfNums val), .slice Av nv cv, .slice Ai ni ci, .int .u8 client, .int .u32 seq, .int .u8 ckind, .string (strOfNums key), .string (strOfNums old), .string (strOfNums new), .int .u8 cset, .int .u8 code, .string (strOfNums text)] 34) = w0 at *
  have l16 : w0.cell? ⟨w.heap.size, 16, none⟩ = some (.int .u8 code) := hb0.cell 16
  have l17 : w0.cell? ⟨w.heap.size, 17, none⟩ = some (.string (strOfNums text)) := hb0.cell 17
  have f16 : w0.cell? ⟨g, 16, none⟩ = some (.int .u8 tcode) := hb.cell 16
  have z16 := hb.frozen 16
  have f17 : w0.cell? ⟨g, 17, none⟩ = some (.string (strOfNums ttext)) := hb.cell 17
  have z17 := hb.frozen 17
  have HB := Lib.hid hb
  have HW := Lib.hid hw0
  have hgne : w.heap.size ≠ g := by have := HM.out.lt; omega
  have hgne2 : g ≠ w.heap.size := by omega
  clear hb hb0 hw0
  go_wp2_with fail
  go_end0
  refine ⟨rfl, ?_, ?_⟩
  · simpa using ((HB.out.set_ 16 (.int .u8 code)).set_ 17 (.string (strOfNums text)))
  · exact (upd_sets (F := fun j => j = g) rfl (upd_sets (F := fun j => j = g) rfl (HW.out.mono (G := fun j => j = g) (fun _ _ h => h.elim)) 16 (.int .u8 code)) 17 (.string (strOfNums text)))

set_option maxRecDepth 100000 in
set_option maxHeartbeats 2000000 in
theorem nd_move {w : World} {g : Nat} (m tt : Ms) {Av Ai Bv Bi : Option Addr} {nv cv ni ci n1 c1 n2 c2 : Nat} (hM : Blk w g 34 (msCells tt (.slice Bv n1 c1) (.slice Bi n2 c2))) :
    Calls Try.prog 61 #[.pointer (some ⟨g, 0, none⟩), msV m (.slice Av nv cv) (.slice Ai ni ci)] w fun e w' => e = .returned (.tuple #[]) ∧ Blk w' g 34 (msCells (ptMove m tt .node) (.slice Bv n1 c1) (.slice Bi n2 c2)) ∧ Upd (fun j => j = g) w w' := by
  have HM := Lib.hid hM
  obtain ⟨kind, bn, br, base, slot, node, val, votes, items, ⟨client, seq, ckind, key, old, new, cset⟩, code, text⟩ := m
  obtain ⟨tkind, tbn, tbr, tbase, tslot, tnode, tval, tvotes, titems, ⟨tclient, tseq, tckind, tkey, told, tnew, tcset⟩, tcode, ttext⟩ := tt
  unfold msV msCells ptMove
  dsimp only
  unfold msCells at HM
  dsimp only at HM
  clear hM
  go_enter Try.func61, Try.ntmps61
  go_upto_region 1 with fail
  have hb0 := Blk.new w 34 #[.int .u8 kind, .int .u64 bn, .int .u8 br, .int .u64 base, .int .u64 slot, .int .u8 node, .string (strOfNums val), .slice Av nv cv, .slice Ai ni ci, .int .u8 client, .int .u32 seq, .int .u8 ckind, .string (strOfNums key), .string (strOfNums old), .string (strOfNums new), .int .u8 cset, .int .u8 code, .string (strOfNums text)]
  have hw0 : Upd (fun _ => False) w (w.alloc (.cells #[.int .u8 kind, .int .u64 bn, .int .u8 br, .int .u64 base, .int .u64 slot, .int .u8 node, .string (strOfNums val), .slice Av nv cv, .slice Ai ni ci, .int .u8 client, .int .u32 seq, .int .u8 ckind, .string (strOfNums key), .string (strOfNums old), .string (strOfNums new), .int .u8 cset, .int .u8 code, .string (strOfNums text)] 34)) := (Upd.refl _ _).alloc _
  have hb := HM.out.alloc (.cells #[.int .u8 kind, .int .u64 bn, .int .u8 br, .int .u64 base, .int .u64 slot, .int .u8 node, .string (strOfNums val), .slice Av nv cv, .slice Ai ni ci, .int .u8 client, .int .u32 seq, .int .u8 ckind, .string (strOfNums key), .string (strOfNums old), .string (strOfNums new), .int .u8 cset, .int .u8 code, .string (strOfNums text)] 34)
  generalize w.alloc (.cells #[.int .u8 kind, .int .u64 bn, .int .u8 br, .int .u64 base, .int .u64 slot, .int .u8 node, .string (strOfNums val), .slice Av nv cv, .slice Ai ni ci, .int .u8 client, .int .u32 seq, .int .u8 ckind, .string (strOfNums key), .string (strOfNums old), .string (strOfNums new), .int .u8 cset, .int .u8 code, .string (strOfNums text)] 34) = w0 at *
  have l5 : w0.cell? ⟨w.heap.size, 5, none⟩ = some (.int .u8 node) := hb0.cell 5
  have f5 : w0.cell? ⟨g, 5, none⟩ = some (.int .u8 tnode) := hb.cell 5
  have z5 := hb.frozen 5
  have HB := Lib.hid hb
  have HW := Lib.hid hw0
  have hgne : w.heap.size ≠ g := by have := HM.out.lt; omega
  have hgne2 : g ≠ w.heap.size := by omega
  clear hb hb0 hw0
  go_wp2_with fail
  go_end0
  refine ⟨rfl, ?_, ?_⟩
  · simpa using (HB.out.set_ 5 (.int .u8 node))
  · exact (upd_sets (F := fun j => j = g) rfl (HW.out.mono (G := fun j => j = g) (fun _ _ h => h.elim)) 5 (.int .u8 node))

set_option maxRecDepth 100000 in
set_option maxHeartbeats 2000000 in
theorem by_move {w : World} {g : Nat} (m tt : Ms) {Av Ai Bv Bi : Option Addr} {nv cv ni ci n1 c1 n2 c2 : Nat} (hM : Blk w g 34 (msCells tt (.slice Bv n1 c1) (.slice Bi n2 c2))) :
    Calls Try.prog 67 #[.pointer (some ⟨g, 0, none⟩), msV m (.slice Av nv cv) (.slice Ai ni ci)] w fun e w' => e = .returned (.tuple #[]) ∧ Blk w' g 34 (msCells (ptMove m tt .byy) (.slice Bv n1 c1) (.slice Bi n2 c2)) ∧ Upd (fun j => j = g) w w' := by
  have HM := Lib.hid hM
  obtain ⟨kind, bn, br, base, slot, node, val, votes, items, ⟨client, seq, ckind, key, old, new, cset⟩, code, text⟩ := m
  obtain ⟨tkind, tbn, tbr, tbase, tslot, tnode, tval, tvotes, titems, ⟨tclient, tseq, tckind, tkey, told, tnew, tcset⟩, tcode, ttext⟩ := tt
  unfold msV msCells ptMove
  dsimp only
  unfold msCells at HM
  dsimp only at HM
  clear hM
  go_enter Try.func67, Try.ntmps67
  go_upto_region 1 with fail
  have hb0 := Blk.new w 34 #[.int .u8 kind, .int .u64 bn, .int .u8 br, .int .u64 base, .int .u64 slot, .int .u8 node, .string (strOfNums val), .slice Av nv cv, .slice Ai ni ci, .int .u8 client, .int .u32 seq, .int .u8 ckind, .string (strOfNums key), .string (strOfNums old), .string (strOfNums new), .int .u8 cset, .int .u8 code, .string (strOfNums text)]
  have hw0 : Upd (fun _ => False) w (w.alloc (.cells #[.int .u8 kind, .int .u64 bn, .int .u8 br, .int .u64 base, .int .u64 slot, .int .u8 node, .string (strOfNums val), .slice Av nv cv, .slice Ai ni ci, .int .u8 client, .int .u32 seq, .int .u8 ckind, .string (strOfNums key), .string (strOfNums old), .string (strOfNums new), .int .u8 cset, .int .u8 code, .string (strOfNums text)] 34)) := (Upd.refl _ _).alloc _
  have hb := HM.out.alloc (.cells #[.int .u8 kind, .int .u64 bn, .int .u8 br, .int .u64 base, .int .u64 slot, .int .u8 node, .string (strOfNums val), .slice Av nv cv, .slice Ai ni ci, .int .u8 client, .int .u32 seq, .int .u8 ckind, .string (strOfNums key), .string (strOfNums old), .string (strOfNums new), .int .u8 cset, .int .u8 code, .string (strOfNums text)] 34)
  generalize w.alloc (.cells #[.int .u8 kind, .int .u64 bn, .int .u8 br, .int .u64 base, .int .u64 slot, .int .u8 node, .string (strOfNums val), .slice Av nv cv, .slice Ai ni ci, .int .u8 client, .int .u32 seq, .int .u8 ckind, .string (strOfNums key), .string (strOfNums old), .string (strOfNums new), .int .u8 cset, .int .u8 code, .string (strOfNums text)] 34) = w0 at *
  have l1 : w0.cell? ⟨w.heap.size, 1, none⟩ = some (.int .u64 bn) := hb0.cell 1
  have l2 : w0.cell? ⟨w.heap.size, 2, none⟩ = some (.int .u8 br) := hb0.cell 2
  have f1 : w0.cell? ⟨g, 1, none⟩ = some (.int .u64 tbn) := hb.cell 1
  have z1 := hb.frozen 1
  have f2 : w0.cell? ⟨g, 2, none⟩ = some (.int .u8 tbr) := hb.cell 2
  have z2 := hb.frozen 2
  have HB := Lib.hid hb
  have HW := Lib.hid hw0
  have hgne : w.heap.size ≠ g := by have := HM.out.lt; omega
  have hgne2 : g ≠ w.heap.size := by omega
  clear hb hb0 hw0
  go_wp2_with fail
  go_end0
  refine ⟨rfl, ?_, ?_⟩
  · simpa using ((HB.out.set_ 1 (.int .u64 bn)).set_ 2 (.int .u8 br))
  · exact (upd_sets (F := fun j => j = g) rfl (upd_sets (F := fun j => j = g) rfl (HW.out.mono (G := fun j => j = g) (fun _ _ h => h.elim)) 1 (.int .u64 bn)) 2 (.int .u8 br))

set_option maxRecDepth 100000 in
set_option maxHeartbeats 2000000 in
theorem bs_move {w : World} {g : Nat} (m tt : Ms) {Av Ai Bv Bi : Option Addr} {nv cv ni ci n1 c1 n2 c2 : Nat} (hM : Blk w g 34 (msCells tt (.slice Bv n1 c1) (.slice Bi n2 c2))) :
    Calls Try.prog 74 #[.pointer (some ⟨g, 0, none⟩), msV m (.slice Av nv cv) (.slice Ai ni ci)] w fun e w' => e = .returned (.tuple #[]) ∧ Blk w' g 34 (msCells (ptMove m tt .base) (.slice Bv n1 c1) (.slice Bi n2 c2)) ∧ Upd (fun j => j = g) w w' := by
  have HM := Lib.hid hM
  obtain ⟨kind, bn, br, base, slot, node, val, votes, items, ⟨client, seq, ckind, key, old, new, cset⟩, code, text⟩ := m
  obtain ⟨tkind, tbn, tbr, tbase, tslot, tnode, tval, tvotes, titems, ⟨tclient, tseq, tckind, tkey, told, tnew, tcset⟩, tcode, ttext⟩ := tt
  unfold msV msCells ptMove
  dsimp only
  unfold msCells at HM
  dsimp only at HM
  clear hM
  go_enter Try.func74, Try.ntmps74
  go_upto_region 1 with fail
  have hb0 := Blk.new w 34 #[.int .u8 kind, .int .u64 bn, .int .u8 br, .int .u64 base, .int .u64 slot, .int .u8 node, .string (strOfNums val), .slice Av nv cv, .slice Ai ni ci, .int .u8 client, .int .u32 seq, .int .u8 ckind, .string (strOfNums key), .string (strOfNums old), .string (strOfNums new), .int .u8 cset, .int .u8 code, .string (strOfNums text)]
  have hw0 : Upd (fun _ => False) w (w.alloc (.cells #[.int .u8 kind, .int .u64 bn, .int .u8 br, .int .u64 base, .int .u64 slot, .int .u8 node, .string (strOfNums val), .slice Av nv cv, .slice Ai ni ci, .int .u8 client, .int .u32 seq, .int .u8 ckind, .string (strOfNums key), .string (strOfNums old), .string (strOfNums new), .int .u8 cset, .int .u8 code, .string (strOfNums text)] 34)) := (Upd.refl _ _).alloc _
  have hb := HM.out.alloc (.cells #[.int .u8 kind, .int .u64 bn, .int .u8 br, .int .u64 base, .int .u64 slot, .int .u8 node, .string (strOfNums val), .slice Av nv cv, .slice Ai ni ci, .int .u8 client, .int .u32 seq, .int .u8 ckind, .string (strOfNums key), .string (strOfNums old), .string (strOfNums new), .int .u8 cset, .int .u8 code, .string (strOfNums text)] 34)
  generalize w.alloc (.cells #[.int .u8 kind, .int .u64 bn, .int .u8 br, .int .u64 base, .int .u64 slot, .int .u8 node, .string (strOfNums val), .slice Av nv cv, .slice Ai ni ci, .int .u8 client, .int .u32 seq, .int .u8 ckind, .string (strOfNums key), .string (strOfNums old), .string (strOfNums new), .int .u8 cset, .int .u8 code, .string (strOfNums text)] 34) = w0 at *
  have l3 : w0.cell? ⟨w.heap.size, 3, none⟩ = some (.int .u64 base) := hb0.cell 3
  have f3 : w0.cell? ⟨g, 3, none⟩ = some (.int .u64 tbase) := hb.cell 3
  have z3 := hb.frozen 3
  have HB := Lib.hid hb
  have HW := Lib.hid hw0
  have hgne : w.heap.size ≠ g := by have := HM.out.lt; omega
  have hgne2 : g ≠ w.heap.size := by omega
  clear hb hb0 hw0
  go_wp2_with fail
  go_end0
  refine ⟨rfl, ?_, ?_⟩
  · simpa using (HB.out.set_ 3 (.int .u64 base))
  · exact (upd_sets (F := fun j => j = g) rfl (HW.out.mono (G := fun j => j = g) (fun _ _ h => h.elim)) 3 (.int .u64 base))

set_option maxRecDepth 100000 in
set_option maxHeartbeats 2000000 in
theorem up_move {w : World} {g : Nat} (m tt : Ms) {Av Ai Bv Bi : Option Addr} {nv cv ni ci n1 c1 n2 c2 : Nat} (hM : Blk w g 34 (msCells tt (.slice Bv n1 c1) (.slice Bi n2 c2))) :
    Calls Try.prog 78 #[.pointer (some ⟨g, 0, none⟩), msV m (.slice Av nv cv) (.slice Ai ni ci)] w fun e w' => e = .returned (.tuple #[]) ∧ Blk w' g 34 (msCells (ptMove m tt .upto) (.slice Bv n1 c1) (.slice Bi n2 c2)) ∧ Upd (fun j => j = g) w w' := by
  have HM := Lib.hid hM
  obtain ⟨kind, bn, br, base, slot, node, val, votes, items, ⟨client, seq, ckind, key, old, new, cset⟩, code, text⟩ := m
  obtain ⟨tkind, tbn, tbr, tbase, tslot, tnode, tval, tvotes, titems, ⟨tclient, tseq, tckind, tkey, told, tnew, tcset⟩, tcode, ttext⟩ := tt
  unfold msV msCells ptMove
  dsimp only
  unfold msCells at HM
  dsimp only at HM
  clear hM
  go_enter Try.func78, Try.ntmps78
  go_upto_region 1 with fail
  have hb0 := Blk.new w 34 #[.int .u8 kind, .int .u64 bn, .int .u8 br, .int .u64 base, .int .u64 slot, .int .u8 node, .string (strOfNums val), .slice Av nv cv, .slice Ai ni ci, .int .u8 client, .int .u32 seq, .int .u8 ckind, .string (strOfNums key), .string (strOfNums old), .string (strOfNums new), .int .u8 cset, .int .u8 code, .string (strOfNums text)]
  have hw0 : Upd (fun _ => False) w (w.alloc (.cells #[.int .u8 kind, .int .u64 bn, .int .u8 br, .int .u64 base, .int .u64 slot, .int .u8 node, .string (strOfNums val), .slice Av nv cv, .slice Ai ni ci, .int .u8 client, .int .u32 seq, .int .u8 ckind, .string (strOfNums key), .string (strOfNums old), .string (strOfNums new), .int .u8 cset, .int .u8 code, .string (strOfNums text)] 34)) := (Upd.refl _ _).alloc _
  have hb := HM.out.alloc (.cells #[.int .u8 kind, .int .u64 bn, .int .u8 br, .int .u64 base, .int .u64 slot, .int .u8 node, .string (strOfNums val), .slice Av nv cv, .slice Ai ni ci, .int .u8 client, .int .u32 seq, .int .u8 ckind, .string (strOfNums key), .string (strOfNums old), .string (strOfNums new), .int .u8 cset, .int .u8 code, .string (strOfNums text)] 34)
  generalize w.alloc (.cells #[.int .u8 kind, .int .u64 bn, .int .u8 br, .int .u64 base, .int .u64 slot, .int .u8 node, .string (strOfNums val), .slice Av nv cv, .slice Ai ni ci, .int .u8 client, .int .u32 seq, .int .u8 ckind, .string (strOfNums key), .string (strOfNums old), .string (strOfNums new), .int .u8 cset, .int .u8 code, .string (strOfNums text)] 34) = w0 at *
  have l4 : w0.cell? ⟨w.heap.size, 4, none⟩ = some (.int .u64 slot) := hb0.cell 4
  have f4 : w0.cell? ⟨g, 4, none⟩ = some (.int .u64 tslot) := hb.cell 4
  have z4 := hb.frozen 4
  have HB := Lib.hid hb
  have HW := Lib.hid hw0
  have hgne : w.heap.size ≠ g := by have := HM.out.lt; omega
  have hgne2 : g ≠ w.heap.size := by omega
  clear hb hb0 hw0
  go_wp2_with fail
  go_end0
  refine ⟨rfl, ?_, ?_⟩
  · simpa using (HB.out.set_ 4 (.int .u64 slot))
  · exact (upd_sets (F := fun j => j = g) rfl (HW.out.mono (G := fun j => j = g) (fun _ _ h => h.elim)) 4 (.int .u64 slot))

set_option maxRecDepth 100000 in
set_option maxHeartbeats 2000000 in
theorem va_move {w : World} {g : Nat} (m tt : Ms) {Av Ai Bv Bi : Option Addr} {nv cv ni ci n1 c1 n2 c2 : Nat} (hM : Blk w g 34 (msCells tt (.slice Bv n1 c1) (.slice Bi n2 c2))) :
    Calls Try.prog 89 #[.pointer (some ⟨g, 0, none⟩), msV m (.slice Av nv cv) (.slice Ai ni ci)] w fun e w' => e = .returned (.tuple #[]) ∧ Blk w' g 34 (msCells (ptMove m tt .value) (.slice Bv n1 c1) (.slice Bi n2 c2)) ∧ Upd (fun j => j = g) w w' := by
  have HM := Lib.hid hM
  obtain ⟨kind, bn, br, base, slot, node, val, votes, items, ⟨client, seq, ckind, key, old, new, cset⟩, code, text⟩ := m
  obtain ⟨tkind, tbn, tbr, tbase, tslot, tnode, tval, tvotes, titems, ⟨tclient, tseq, tckind, tkey, told, tnew, tcset⟩, tcode, ttext⟩ := tt
  unfold msV msCells ptMove
  dsimp only
  unfold msCells at HM
  dsimp only at HM
  clear hM
  go_enter Try.func89, Try.ntmps89
  go_upto_region 1 with fail
  have hb0 := Blk.new w 34 #[.int .u8 kind, .int .u64 bn, .int .u8 br, .int .u64 base, .int .u64 slot, .int .u8 node, .string (strOfNums val), .slice Av nv cv, .slice Ai ni ci, .int .u8 client, .int .u32 seq, .int .u8 ckind, .string (strOfNums key), .string (strOfNums old), .string (strOfNums new), .int .u8 cset, .int .u8 code, .string (strOfNums text)]
  have hw0 : Upd (fun _ => False) w (w.alloc (.cells #[.int .u8 kind, .int .u64 bn, .int .u8 br, .int .u64 base, .int .u64 slot, .int .u8 node, .string (strOfNums val), .slice Av nv cv, .slice Ai ni ci, .int .u8 client, .int .u32 seq, .int .u8 ckind, .string (strOfNums key), .string (strOfNums old), .string (strOfNums new), .int .u8 cset, .int .u8 code, .string (strOfNums text)] 34)) := (Upd.refl _ _).alloc _
  have hb := HM.out.alloc (.cells #[.int .u8 kind, .int .u64 bn, .int .u8 br, .int .u64 base, .int .u64 slot, .int .u8 node, .string (strOfNums val), .slice Av nv cv, .slice Ai ni ci, .int .u8 client, .int .u32 seq, .int .u8 ckind, .string (strOfNums key), .string (strOfNums old), .string (strOfNums new), .int .u8 cset, .int .u8 code, .string (strOfNums text)] 34)
  generalize w.alloc (.cells #[.int .u8 kind, .int .u64 bn, .int .u8 br, .int .u64 base, .int .u64 slot, .int .u8 node, .string (strOfNums val), .slice Av nv cv, .slice Ai ni ci, .int .u8 client, .int .u32 seq, .int .u8 ckind, .string (strOfNums key), .string (strOfNums old), .string (strOfNums new), .int .u8 cset, .int .u8 code, .string (strOfNums text)] 34) = w0 at *
  have l6 : w0.cell? ⟨w.heap.size, 6, none⟩ = some (.string (strOfNums val)) := hb0.cell 6
  have f6 : w0.cell? ⟨g, 6, none⟩ = some (.string (strOfNums tval)) := hb.cell 6
  have z6 := hb.frozen 6
  have HB := Lib.hid hb
  have HW := Lib.hid hw0
  have hgne : w.heap.size ≠ g := by have := HM.out.lt; omega
  have hgne2 : g ≠ w.heap.size := by omega
  clear hb hb0 hw0
  go_wp2_with fail
  go_end0
  refine ⟨rfl, ?_, ?_⟩
  · simpa using (HB.out.set_ 6 (.string (strOfNums val)))
  · exact (upd_sets (F := fun j => j = g) rfl (HW.out.mono (G := fun j => j = g) (fun _ _ h => h.elim)) 6 (.string (strOfNums val)))

set_option maxHeartbeats 2000000 in
theorem voclone_any {w : World} {G : Nat → Prop} {vv : Value} {L : List Vt} (h : Sl w G 4 vv L.length (L.flatMap vtCells)) (hl : L.length ≤ 1000000) :
    Calls Try.prog 83 #[vv] w fun e w' => ∃ v', e = .returned v' ∧ w'.ownsRow 0 47 4 v' L.length (L.flatMap vtCells) ∧ Upd (fun _ => False) w w' ∧ (∀ j, v'.ownBlock = some j → w.heap.size ≤ j) := by
  obtain ⟨i0, hi0, hz0, hz1, hz2⟩ := info_parts infoVote
  have H1 : Hid (∀ u ∈ L.flatMap vtCells, u.oneCell' = true) := fun u hu => by
    obtain ⟨x, _, hx⟩ := List.mem_flatMap.1 hu
    exact vtCells_one x u hx
  have HS := Lib.hid h
  obtain ⟨hle, A, c, rfl, hnc, hcm, hA, hx⟩ := h
  have HLE := Lib.hid hle
  obtain ⟨N, hN⟩ : ∃ N, L.length = N := ⟨_, rfl⟩
  rw [hN] at HS hnc hl ⊢
  have HN := Lib.hid hN
  clear hN hx hle
  have hq : ∀ wx, (binOp .eql 26 (.slice A N c) (.slice none 0 0)).run Try.prog wx = .ok (.bool A.isNone) wx := fun wx => Lib.run_eql_slice_nil wx 26 47 A N c 0 0 Try.underlying26
  cases A with
  | none =>
    have hc0 := hA rfl
    have hn0 : N = 0 := by omega
    subst hc0
    subst hn0
    have hL : L = [] := List.eq_nil_of_length_eq_zero HN.out
    subst hL
    clear hA hnc hcm HS
    go_enter Try.func83, Try.ntmps83
    go_wp2_with fail
    go_ret
    exact ⟨_, rfl, World.ownsRow_nil _ _ _ _, Upd.refl _ _, fun j hj => (no_own_nil j hj).elim⟩
  | some a =>
    clear hA hcm hnc
    go_enter Try.func83, Try.ntmps83
    go_wp2_with (first
      | (at_builtin
         go_must (refine wpList_append_sl _ rfl (.tmp 5) (.tmp 6) _ rfl 47 i0 _ 4 40 Try.underlying26 hi0 hz0 hz1 hz2 rfl (by omega) (.slice (some ⟨w.heap.size, 0, none⟩) 0 0) 0 [] rfl (by exact World.ownsRow_lit w #[] 0 (Nat.zero_le _) (by simp [maxLen]) (by simp)) _ (.slice (some a) N c) N (L.flatMap vtCells) rfl (HS.out.alloc _) H1.out (by simp only [maxLen]; omega) (by omega) ?_)
         intro v1 w1 hown1 hg1 hat1))
    go_ret
    rw [Nat.zero_add, List.nil_append] at hown1
    refine ⟨v1, rfl, hown1, Upd.grown (F := fun _ => False) ((Upd.refl _ w).alloc (.cells #[] 47)) hg1 (fun q hq => .inr (by simp [Value.ownBlock] at hq; omega)), fun j hj => ?_⟩
    rcases hat1 with h | h
    · rw [h] at hj; simp [Value.ownBlock] at hj; omega
    · rw [h] at hj; have := Option.some.inj hj; simp only [World.size_alloc] at this; omega

set_option maxRecDepth 100000 in
set_option maxHeartbeats 2000000 in
theorem vo_move {w : World} {g : Nat} (m tt : Ms) {Av Ai Bv Bi : Option Addr} {nv cv ni ci n1 c1 n2 c2 : Nat} (hM : Blk w g 34 (msCells tt (.slice Bv n1 c1) (.slice Bi n2 c2))) {G : Nat → Prop} (hS : Sl w G 4 (.slice Av nv cv) m.votes.length (m.votes.flatMap vtCells)) (hl : m.votes.length ≤ 1000000) :
    Calls Try.prog 82 #[.pointer (some ⟨g, 0, none⟩), msV m (.slice Av nv cv) (.slice Ai ni ci)] w fun e w' => e = .returned (.tuple #[]) ∧ ∃ v', Blk w' g 34 (msCells (ptMove m tt .votes) v' (.slice Bi n2 c2)) ∧ w'.ownsRow 0 47 4 v' m.votes.length (m.votes.flatMap vtCells) ∧ (∀ j, v'.ownBlock = some j → w.heap.size ≤ j) ∧ Upd (fun j => j = g) w w' := by
  have HM := Lib.hid hM
  have HC := Lib.hid (fun (wx : World) (hu : Upd (fun _ => False) w wx) => voclone_any (hS.upd hu (fun _ _ h => h)) hl)
  obtain ⟨kind, bn, br, base, slot, node, val, votes, items, ⟨client, seq, ckind, key, old, new, cset⟩, code, text⟩ := m
  obtain ⟨tkind, tbn, tbr, tbase, tslot, tnode, tval, tvotes, titems, ⟨tclient, tseq, tckind, tkey, told, tnew, tcset⟩, tcode, ttext⟩ := tt
  unfold msV msCells ptMove
  dsimp only at HC ⊢
  unfold msCells at HM
  dsimp only at HM
  clear hM hS hl
  go_enter Try.func82, Try.ntmps82
  go_upto_region 1 with fail
  have hb0 := Blk.new w 34 #[.int .u8 kind, .int .u64 bn, .int .u8 br, .int .u64 base, .int .u64 slot, .int .u8 node, .string (strOfNums val), .slice Av nv cv, .slice Ai ni ci, .int .u8 client, .int .u32 seq, .int .u8 ckind, .string (strOfNums key), .string (strOfNums old), .string (strOfNums new), .int .u8 cset, .int .u8 code, .string (strOfNums text)]
  have hw0 : Upd (fun _ => False) w (w.alloc (.cells #[.int .u8 kind, .int .u64 bn, .int .u8 br, .int .u64 base, .int .u64 slot, .int .u8 node, .string (strOfNums val), .slice Av nv cv, .slice Ai ni ci, .int .u8 client, .int .u32 seq, .int .u8 ckind, .string (strOfNums key), .string (strOfNums old), .string (strOfNums new), .int .u8 cset, .int .u8 code, .string (strOfNums text)] 34)) := (Upd.refl _ _).alloc _
  have hb := HM.out.alloc (.cells #[.int .u8 kind, .int .u64 bn, .int .u8 br, .int .u64 base, .int .u64 slot, .int .u8 node, .string (strOfNums val), .slice Av nv cv, .slice Ai ni ci, .int .u8 client, .int .u32 seq, .int .u8 ckind, .string (strOfNums key), .string (strOfNums old), .string (strOfNums new), .int .u8 cset, .int .u8 code, .string (strOfNums text)] 34)
  generalize w.alloc (.cells #[.int .u8 kind, .int .u64 bn, .int .u8 br, .int .u64 base, .int .u64 slot, .int .u8 node, .string (strOfNums val), .slice Av nv cv, .slice Ai ni ci, .int .u8 client, .int .u32 seq, .int .u8 ckind, .string (strOfNums key), .string (strOfNums old), .string (strOfNums new), .int .u8 cset, .int .u8 code, .string (strOfNums text)] 34) = w0 at *
  have l7 : w0.cell? ⟨w.heap.size, 7, none⟩ = some (.slice Av nv cv) := hb0.cell 7
  have HB := Lib.hid hb
  have HW := Lib.hid hw0
  clear hb hb0 hw0
  go_wp2_with fail
  have hq := HC.out w0 HW.out
  (with_reducible refine hq.mono ?_)
  clear hq
  rintro e w1 ⟨v1, rfl, hown1, hu1, hv1⟩
  obtain ⟨A1, k1, rfl, _, _⟩ := row_form_ hown1
  have hb := HB.out.upd hu1 id
  have f7 : w1.cell? ⟨g, 7, none⟩ = some (.slice Bv n1 c1) := hb.cell 7
  have z7 := hb.frozen 7
  have HO := Lib.hid hown1
  have HU := Lib.hid (HW.out.trans hu1 (fun _ _ h => h))
  have HV := Lib.hid hv1
  have HB1 := Lib.hid hb
  have HZ := Lib.hid HW.out.size
  clear hb hown1 hu1 hv1
  go_wp2_with fail
  go_end0
  have hgl := HM.out.lt
  have hgz := HZ.out
  refine ⟨rfl, _, by simpa using HB1.out.set_ 7 (.slice A1 votes.length k1), own_upd HO.out (upd_sets (F := fun j => j = g) rfl (Upd.refl _ w1) 7 _) (fun j hj e => by have := HV.out j hj; omega), fun j hj => Nat.le_trans hgz (HV.out j hj), upd_sets (F := fun j => j = g) rfl (HU.out.mono (fun _ _ h => h.elim)) 7 _⟩

set_option maxHeartbeats 2000000 in
theorem itclone_any {w : World} {G : Nat → Prop} {vv : Value} {L : List It} (h : Sl w G 2 vv L.length (L.flatMap itCells)) (hl : L.length ≤ 1000000) :
    Calls Try.prog 94 #[vv] w fun e w' => ∃ v', e = .returned v' ∧ w'.ownsRow 0 49 2 v' L.length (L.flatMap itCells) ∧ Upd (fun _ => False) w w' ∧ (∀ j, v'.ownBlock = some j → w.heap.size ≤ j) := by
  obtain ⟨i0, hi0, hz0, hz1, hz2⟩ := info_parts infoItem
  have H1 : Hid (∀ u ∈ L.flatMap itCells, u.oneCell' = true) := fun u hu => by
    obtain ⟨x, _, hx⟩ := List.mem_flatMap.1 hu
    exact itCells_one x u hx
  have HS := Lib.hid h
  obtain ⟨hle, A, c, rfl, hnc, hcm, hA, hx⟩ := h
  have HLE := Lib.hid hle
  obtain ⟨N, hN⟩ : ∃ N, L.length = N := ⟨_, rfl⟩
  rw [hN] at HS hnc hl ⊢
  have HN := Lib.hid hN
  clear hN hx hle
  have hq : ∀ wx, (binOp .eql 27 (.slice A N c) (.slice none 0 0)).run Try.prog wx = .ok (.bool A.isNone) wx := fun wx => Lib.run_eql_slice_nil wx 27 49 A N c 0 0 Try.underlying27
  cases A with
  | none =>
    have hc0 := hA rfl
    have hn0 : N = 0 := by omega
    subst hc0
    subst hn0
    have hL : L = [] := List.eq_nil_of_length_eq_zero HN.out
    subst hL
    clear hA hnc hcm HS
    go_enter Try.func94, Try.ntmps94
    go_wp2_with fail
    go_ret
    exact ⟨_, rfl, World.ownsRow_nil _ _ _ _, Upd.refl _ _, fun j hj => (no_own_nil j hj).elim⟩
  | some a =>
    clear hA hcm hnc
    go_enter Try.func94, Try.ntmps94
    go_wp2_with (first
      | (at_builtin
         go_must (refine wpList_append_sl _ rfl (.tmp 5) (.tmp 6) _ rfl 49 i0 _ 2 24 Try.underlying27 hi0 hz0 hz1 hz2 rfl (by omega) (.slice (some ⟨w.heap.size, 0, none⟩) 0 0) 0 [] rfl (by exact World.ownsRow_lit w #[] 0 (Nat.zero_le _) (by simp [maxLen]) (by simp)) _ (.slice (some a) N c) N (L.flatMap itCells) rfl (HS.out.alloc _) H1.out (by simp only [maxLen]; omega) (by omega) ?_)
         intro v1 w1 hown1 hg1 hat1))
    go_ret
    rw [Nat.zero_add, List.nil_append] at hown1
    refine ⟨v1, rfl, hown1, Upd.grown (F := fun _ => False) ((Upd.refl _ w).alloc (.cells #[] 49)) hg1 (fun q hq => .inr (by simp [Value.ownBlock] at hq; omega)), fun j hj => ?_⟩
    rcases hat1 with h | h
    · rw [h] at hj; simp [Value.ownBlock] at hj; omega
    · rw [h] at hj; have := Option.some.inj hj; simp only [World.size_alloc] at this; omega

set_option maxRecDepth 100000 in
set_option maxHeartbeats 2000000 in
theorem it_move {w : World} {g : Nat} (m tt : Ms) {Av Ai Bv Bi : Option Addr} {nv cv ni ci n1 c1 n2 c2 : Nat} (hM : Blk w g 34 (msCells tt (.slice Bv n1 c1) (.slice Bi n2 c2))) {G : Nat → Prop} (hS : Sl w G 2 (.slice Ai ni ci) m.items.length (m.items.flatMap itCells)) (hl : m.items.length ≤ 1000000) :
    Calls Try.prog 93 #[.pointer (some ⟨g, 0, none⟩), msV m (.slice Av nv cv) (.slice Ai ni ci)] w fun e w' => e = .returned (.tuple #[]) ∧ ∃ v', Blk w' g 34 (msCells (ptMove m tt .items) (.slice Bv n1 c1) v') ∧ w'.ownsRow 0 49 2 v' m.items.length (m.items.flatMap itCells) ∧ (∀ j, v'.ownBlock = some j → w.heap.size ≤ j) ∧ Upd (fun j => j = g) w w' := by
  have HM := Lib.hid hM
  have HC := Lib.hid (fun (wx : World) (hu : Upd (fun _ => False) w wx) => itclone_any (hS.upd hu (fun _ _ h => h)) hl)
  obtain ⟨kind, bn, br, base, slot, node, val, votes, items, ⟨client, seq, ckind, key, old, new, cset⟩, code, text⟩ := m
  obtain ⟨tkind, tbn, tbr, tbase, tslot, tnode, tval, tvotes, titems, ⟨tclient, tseq, tckind, tkey, told, tnew, tcset⟩, tcode, ttext⟩ := tt
  unfold msV msCells ptMove
  dsimp only at HC ⊢
  unfold msCells at HM
  dsimp only at HM
  clear hM hS hl
  go_enter Try.func93, Try.ntmps93
  go_upto_region 1 with fail
  have hb0 := Blk.new w 34 #[.int .u8 kind, .int .u64 bn, .int .u8 br, .int .u64 base, .int .u64 slot, .int .u8 node, .string (strOfNums val), .slice Av nv cv, .slice Ai ni ci, .int .u8 client, .int .u32 seq, .int .u8 ckind, .string (strOfNums key), .string (strOfNums old), .string (strOfNums new), .int .u8 cset, .int .u8 code, .string (strOfNums text)]
  have hw0 : Upd (fun _ => False) w (w.alloc (.cells #[.int .u8 kind, .int .u64 bn, .int .u8 br, .int .u64 base, .int .u64 slot, .int .u8 node, .string (strOfNums val), .slice Av nv cv, .slice Ai ni ci, .int .u8 client, .int .u32 seq, .int .u8 ckind, .string (strOfNums key), .string (strOfNums old), .string (strOfNums new), .int .u8 cset, .int .u8 code, .string (strOfNums text)] 34)) := (Upd.refl _ _).alloc _
  have hb := HM.out.alloc (.cells #[.int .u8 kind, .int .u64 bn, .int .u8 br, .int .u64 base, .int .u64 slot, .int .u8 node, .string (strOfNums val), .slice Av nv cv, .slice Ai ni ci, .int .u8 client, .int .u32 seq, .int .u8 ckind, .string (strOfNums key), .string (strOfNums old), .string (strOfNums new), .int .u8 cset, .int .u8 code, .string (strOfNums text)] 34)
  generalize w.alloc (.cells #[.int .u8 kind, .int .u64 bn, .int .u8 br, .int .u64 base, .int .u64 slot, .int .u8 node, .string (strOfNums val), .slice Av nv cv, .slice Ai ni ci, .int .u8 client, .int .u32 seq, .int .u8 ckind, .string (strOfNums key), .string (strOfNums old), .string (strOfNums new), .int .u8 cset, .int .u8 code, .string (strOfNums text)] 34) = w0 at *
  have l8 : w0.cell? ⟨w.heap.size, 8, none⟩ = some (.slice Ai ni ci) := hb0.cell 8
  have HB := Lib.hid hb
  have HW := Lib.hid hw0
  clear hb hb0 hw0
  go_wp2_with fail
  have hq := HC.out w0 HW.out
  (with_reducible refine hq.mono ?_)
  clear hq
  rintro e w1 ⟨v1, rfl, hown1, hu1, hv1⟩
  obtain ⟨A1, k1, rfl, _, _⟩ := row_form_ hown1
  have hb := HB.out.upd hu1 id
  have f8 : w1.cell? ⟨g, 8, none⟩ = some (.slice Bi n2 c2) := hb.cell 8
  have z8 := hb.frozen 8
  have HO := Lib.hid hown1
  have HU := Lib.hid (HW.out.trans hu1 (fun _ _ h => h))
  have HV := Lib.hid hv1
  have HB1 := Lib.hid hb
  have HZ := Lib.hid HW.out.size
  clear hb hown1 hu1 hv1
  go_wp2_with fail
  go_end0
  have hgl := HM.out.lt
  have hgz := HZ.out
  refine ⟨rfl, _, by simpa using HB1.out.set_ 8 (.slice A1 items.length k1), own_upd HO.out (upd_sets (F := fun j => j = g) rfl (Upd.refl _ w1) 8 _) (fun j hj e => by have := HV.out j hj; omega), fun j hj => Nat.le_trans hgz (HV.out j hj), upd_sets (F := fun j => j = g) rfl (HU.out.mono (fun _ _ h => h.elim)) 8 _⟩

end Go.Proofs.Ytaielcokfpodaaa
