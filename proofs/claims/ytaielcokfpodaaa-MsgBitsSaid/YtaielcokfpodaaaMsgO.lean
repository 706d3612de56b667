/-
  Layer 18, messages: a message that came in as an argument. Conditions: none.
-/
import Derived.Test.YtaielcokfpodaaaMsgK
import Derived.Test.YtaielcokfpodaaaOpen
namespace Go.Proofs.Ytaielcokfpodaaa
open Go.RowKit Go.ChangeShapes Go.WideShapes

/-- What any message's fields hold. -/
structure RawC (c : Cm) : Prop where
  wf : WfC c
  key : c.key.length ≤ maxLen
  old : c.old.length ≤ maxLen
  new : c.new.length ≤ maxLen
structure RawV (v : Vt) : Prop where
  slot : 0 ≤ v.slot ∧ v.slot < 18446744073709551616
  n : 0 ≤ v.n ∧ v.n < 18446744073709551616
  r : 0 ≤ v.r ∧ v.r ≤ 255
  val : Byt v.val ∧ v.val.length ≤ maxLen
structure RawI (v : It) : Prop where
  slot : 0 ≤ v.slot ∧ v.slot < 18446744073709551616
  val : Byt v.val ∧ v.val.length ≤ maxLen
structure RawM (m : Ms) : Prop where
  kind : 0 ≤ m.kind ∧ m.kind ≤ 255
  bn : 0 ≤ m.bn ∧ m.bn < 18446744073709551616
  br : 0 ≤ m.br ∧ m.br ≤ 255
  base : 0 ≤ m.base ∧ m.base < 18446744073709551616
  slot : 0 ≤ m.slot ∧ m.slot < 18446744073709551616
  node : 0 ≤ m.node ∧ m.node ≤ 255
  val : Byt m.val ∧ m.val.length ≤ maxLen
  votes : m.votes.length ≤ maxLen ∧ ∀ v ∈ m.votes, RawV v
  items : m.items.length ≤ maxLen ∧ ∀ v ∈ m.items, RawI v
  cmd : RawC m.cmd
  code : 0 ≤ m.code ∧ m.code ≤ 255
  text : Byt m.text ∧ m.text.length ≤ maxLen

theorem str_nums (s : ByteArray) : strOfNums (nums s) = s := by
  have h : (nums s).map (fun n => UInt8.ofNat n.toNat) = s.data.toList := by
    unfold nums
    rw [List.map_map]
    conv => rhs; rw [← List.map_id s.data.toList]
    exact List.map_congr_left fun x _ => by simp
  unfold strOfNums
  rw [h]
theorem nums_byt (s : ByteArray) : Byt (nums s) := fun x hx => nums_bd s x hx
theorem wf_u64 {n : Int} (h : (Lit.int .u64 n).wf = true) : 0 ≤ n ∧ n < 18446744073709551616 := by
  simp [Lit.wf, IntKind.min, IntKind.max, IntKind.signed, IntKind.bits] at h; omega
theorem wf_u32 {n : Int} (h : (Lit.int .u32 n).wf = true) : 0 ≤ n ∧ n < 4294967296 := by
  simp [Lit.wf, IntKind.min, IntKind.max, IntKind.signed, IntKind.bits] at h; omega
theorem flat_vote : flat Try.prog 4 47 = some [.int .u64, .int .u64, .int .u8, .str] := by kernel_rfl
theorem flat_item : flat Try.prog 4 49 = some [.int .u64, .str] := by kernel_rfl
theorem flat_msg : flat Try.prog 4 34 = some [.int .u8, .int .u64, .int .u8, .int .u64, .int .u64, .int .u8, .str, .row 47, .row 49, .int .u8, .int .u32, .int .u8, .str, .str, .str, .int .u8, .int .u8, .str] := by kernel_rfl

section
variable {H : Type} {enc : TypeId × Value → H} {w : World} {base : Nat} {spare : Nat → Bool} {held : Bool}
theorem votes_in {v : Value} (h : RowIn enc Try.prog w base spare held 47 v) : ∃ L : List Vt, Sl w (fun k => k < w.heap.size) 4 v L.length (L.flatMap vtCells) ∧ (∀ a ∈ L, RawV a) ∧ L.length ≤ maxLen := by
  refine h.list flat_vote (by kernel_rfl) (by decide) vtCells RawV (fun a => rfl) (fun cs hc => ?_)
  obtain ⟨_, _, rfl, ⟨a, rfl, ha⟩, _, _, rfl, ⟨b, rfl, hb⟩, _, _, rfl, ⟨c, rfl, hc⟩, _, _, rfl, ⟨s, rfl, hs⟩, hnil⟩ := hc
  obtain rfl := hnil
  refine ⟨⟨a, b, c, nums s⟩, ?_, wf_u64 ha, wf_u64 hb, wf_u8 hc, nums_byt s, ?_⟩
  · show _ = [_, _, _, Value.string (strOfNums (nums s))]
    rw [str_nums]
  · show (nums s).length ≤ _
    rw [nums_length]
    exact hs
theorem items_in {v : Value} (h : RowIn enc Try.prog w base spare held 49 v) : ∃ L : List It, Sl w (fun k => k < w.heap.size) 2 v L.length (L.flatMap itCells) ∧ (∀ a ∈ L, RawI a) ∧ L.length ≤ maxLen := by
  refine h.list flat_item (by kernel_rfl) (by decide) itCells RawI (fun a => rfl) (fun cs hc => ?_)
  obtain ⟨_, _, rfl, ⟨a, rfl, ha⟩, _, _, rfl, ⟨s, rfl, hs⟩, hnil⟩ := hc
  obtain rfl := hnil
  refine ⟨⟨a, nums s⟩, ?_, wf_u64 ha, nums_byt s, ?_⟩
  · show _ = [_, Value.string (strOfNums (nums s))]
    rw [str_nums]
  · show (nums s).length ≤ _
    rw [nums_length]
    exact hs
set_option maxRecDepth 100000 in
theorem open_msg {r : Reach} {b0 : Nat} {v : Value} {d : DataW H} {p : List MemPlace} (hv : Value.okWide Try.prog w r b0 34 v) (h : DataW.Trod enc Try.prog w base spare held 34 v d p) : ∃ m vv vi, v = msV m vv vi ∧ RawM m ∧ Lists w (fun k => k < w.heap.size) m vv vi := by
  obtain ⟨cs, rfl, hc⟩ := open_flat Try.underlying34 flat_msg hv h
  obtain ⟨_, _, rfl, ⟨a0, rfl, h0⟩, _, _, rfl, ⟨a1, rfl, h1⟩, _, _, rfl, ⟨a2, rfl, h2⟩, _, _, rfl, ⟨a3, rfl, h3⟩, _, _, rfl, ⟨a4, rfl, h4⟩, _, _, rfl, ⟨a5, rfl, h5⟩, _, _, rfl, ⟨a6, rfl, h6⟩, vv, _, rfl, hvv, vi, _, rfl, hvi, hc⟩ := hc
  obtain ⟨_, _, rfl, ⟨a9, rfl, h9⟩, _, _, rfl, ⟨a10, rfl, h10⟩, _, _, rfl, ⟨a11, rfl, h11⟩, _, _, rfl, ⟨a12, rfl, h12⟩, _, _, rfl, ⟨a13, rfl, h13⟩, _, _, rfl, ⟨a14, rfl, h14⟩, _, _, rfl, ⟨a15, rfl, h15⟩, _, _, rfl, ⟨a16, rfl, h16⟩, _, _, rfl, ⟨a17, rfl, h17⟩, hnil⟩ := hc
  obtain rfl := hnil
  obtain ⟨lv, s1, s2, s3⟩ := votes_in hvv
  obtain ⟨li, t1, t2, t3⟩ := items_in hvi
  have hn : ∀ {s : ByteArray}, s.size ≤ maxLen → Byt (nums s) ∧ (nums s).length ≤ maxLen := fun {s} hs => ⟨nums_byt s, by rw [nums_length]; exact hs⟩
  refine ⟨⟨a0, a1, a2, a3, a4, a5, nums a6, lv, li, ⟨a9, a10, a11, nums a12, nums a13, nums a14, a15⟩, a16, nums a17⟩, vv, vi, ?_, ?_, s1, t1⟩
  · unfold msV msCells
    simp only [str_nums]
  · exact ⟨wf_u8 h0, wf_u64 h1, wf_u8 h2, wf_u64 h3, wf_u64 h4, wf_u8 h5, hn h6, ⟨s3, s2⟩, ⟨t3, t2⟩, ⟨⟨wf_u8 h9, wf_u32 h10, wf_u8 h11, nums_byt _, nums_byt _, nums_byt _, wf_u8 h15⟩, (hn h12).2, (hn h13).2, (hn h14).2⟩, wf_u8 h16, hn h17⟩
end
end Go.Proofs.Ytaielcokfpodaaa
