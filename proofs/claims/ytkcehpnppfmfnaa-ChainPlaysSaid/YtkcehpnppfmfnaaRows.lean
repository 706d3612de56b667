/-
  No cell of these rows narrows 'for every input' (looked for: loops, veiled, ifaces, maps, wideKeys, modest, calm, conditions, laid).
  DERIVED. THE GIVEN ROWS OF THIS SEAT. 5 by the template 'for every input the law returns true; each argument reads behind the call as it read before'; 0 by the template 'total and deterministic' (their statements: YtkcehpnppfmfnaaTotals.lean).
  GIVEN WITH THE SEED: the statements are not yours to turn. If you find one false, say at which input.
  Laid BY PROGRAM, IN A SANDBOX (cutbox-rows.mjs): the forced cells as the released guide's own fill.sh prints them over the translation 1453ecbc829ca8fb… (all of the seat's roots in one cut). By AI agents, Wed Nov 11 2026. No macro, syntax, notation, axiom, sorry.
-/
import Derived.Test.YtkcehpnppfmfnaaChecked
import GoSem.Claim
import GoSem.ClaimJoined
import GoSem.ClaimMapViews
import Derived.JoinedTies
import Derived.KernelRfl
namespace Go.Proofs.Ytkcehpnppfmfnaa
/- THE CELL 'sum', in the pinned program and in every row, IS THE sha256 OF THE DUMP (.gsa) THAT YtkcehpnppfmfnaaProg.lean LOADS. Nothing in Lean hashes anything: it is a label: what it is worth is what the hold of that sum in a sandbox is worth. -/
noncomputable def Try.pinned : Pinned := { name := "ytkcehpnppfmfnaa", sum := "1453ecbc829ca8fbca33528a4edc20384633e5d9e02d61dfb05db3d827a6d956", checked := Try.checked }
namespace Rows
def none {H : Type} : Left H := { results := [], args := [] }

/-- 'palaverlaw15.ChainAhead': WHATEVER THE INPUT: true; the input reads as it did. -/
def chainAheadSpec : ChangeSpec := { name := "chainAhead", fn := fun _ => fun
  | [d1, d2, d3, d4] => { results := [.lit (.bool true)], args := [d1, d2, d3, d4] }
  | _ => none }
def chainAheadRow : OpenClaim := { program := "ytkcehpnppfmfnaa", sum := "1453ecbc829ca8fbca33528a4edc20384633e5d9e02d61dfb05db3d827a6d956", func := "palaver/palaverlaw15.ChainAhead", spec := "chainAhead", unfollowed := true, recurses := true, apart := false }
def ChainAheadSaid : Prop := chainAheadRow.holds Try.pinned (OpenSpec.ofChange chainAheadSpec)

/-- ITS FALSE NEIGHBOUR: 'it returns false'. Refute it at one input. -/
def chainAheadWrong : ChangeSpec := { name := "chainAhead", fn := fun _ => fun
  | [d1, d2, d3, d4] => { results := [.lit (.bool false)], args := [d1, d2, d3, d4] }
  | _ => none }
def ChainAheadWrongFalsely : Prop := chainAheadRow.holds Try.pinned (OpenSpec.ofChange chainAheadWrong)

/-- 'palaverlaw15.ChainOf': WHATEVER THE INPUT: true; the input reads as it did. -/
def chainOfSpec : ChangeSpec := { name := "chainOf", fn := fun _ => fun
  | [d1, d2, d3, d4, d5] => { results := [.lit (.bool true)], args := [d1, d2, d3, d4, d5] }
  | _ => none }
def chainOfRow : OpenClaim := { program := "ytkcehpnppfmfnaa", sum := "1453ecbc829ca8fbca33528a4edc20384633e5d9e02d61dfb05db3d827a6d956", func := "palaver/palaverlaw15.ChainOf", spec := "chainOf", unfollowed := true, recurses := true, apart := false }
def ChainOfSaid : Prop := chainOfRow.holds Try.pinned (OpenSpec.ofChange chainOfSpec)

/-- ITS FALSE NEIGHBOUR: 'it returns false'. Refute it at one input. -/
def chainOfWrong : ChangeSpec := { name := "chainOf", fn := fun _ => fun
  | [d1, d2, d3, d4, d5] => { results := [.lit (.bool false)], args := [d1, d2, d3, d4, d5] }
  | _ => none }
def ChainOfWrongFalsely : Prop := chainOfRow.holds Try.pinned (OpenSpec.ofChange chainOfWrong)

/-- 'palaverlaw15.ChainNil': WHATEVER THE INPUT: true; the input reads as it did. -/
def chainNilSpec : ChangeSpec := { name := "chainNil", fn := fun _ => fun
  | [d1, d2, d3] => { results := [.lit (.bool true)], args := [d1, d2, d3] }
  | _ => none }
def chainNilRow : OpenClaim := { program := "ytkcehpnppfmfnaa", sum := "1453ecbc829ca8fbca33528a4edc20384633e5d9e02d61dfb05db3d827a6d956", func := "palaver/palaverlaw15.ChainNil", spec := "chainNil", unfollowed := true, recurses := true, apart := false }
def ChainNilSaid : Prop := chainNilRow.holds Try.pinned (OpenSpec.ofChange chainNilSpec)

/-- ITS FALSE NEIGHBOUR: 'it returns false'. Refute it at one input. -/
def chainNilWrong : ChangeSpec := { name := "chainNil", fn := fun _ => fun
  | [d1, d2, d3] => { results := [.lit (.bool false)], args := [d1, d2, d3] }
  | _ => none }
def ChainNilWrongFalsely : Prop := chainNilRow.holds Try.pinned (OpenSpec.ofChange chainNilWrong)

/-- 'palaverlaw15.ChainTails': WHATEVER THE INPUT: true; the input reads as it did. -/
def chainTailsSpec : ChangeSpec := { name := "chainTails", fn := fun _ => fun
  | [d1, d2, d3] => { results := [.lit (.bool true)], args := [d1, d2, d3] }
  | _ => none }
def chainTailsRow : OpenClaim := { program := "ytkcehpnppfmfnaa", sum := "1453ecbc829ca8fbca33528a4edc20384633e5d9e02d61dfb05db3d827a6d956", func := "palaver/palaverlaw15.ChainTails", spec := "chainTails", unfollowed := true, recurses := true, apart := false }
def ChainTailsSaid : Prop := chainTailsRow.holds Try.pinned (OpenSpec.ofChange chainTailsSpec)

/-- ITS FALSE NEIGHBOUR: 'it returns false'. Refute it at one input. -/
def chainTailsWrong : ChangeSpec := { name := "chainTails", fn := fun _ => fun
  | [d1, d2, d3] => { results := [.lit (.bool false)], args := [d1, d2, d3] }
  | _ => none }
def ChainTailsWrongFalsely : Prop := chainTailsRow.holds Try.pinned (OpenSpec.ofChange chainTailsWrong)

/-- 'palaverlaw15.ChainPlays': WHATEVER THE INPUT: true; the input reads as it did. -/
def chainPlaysSpec : ChangeSpec := { name := "chainPlays", fn := fun _ => fun
  | [d1, d2, d3, d4] => { results := [.lit (.bool true)], args := [d1, d2, d3, d4] }
  | _ => none }
def chainPlaysRow : OpenClaim := { program := "ytkcehpnppfmfnaa", sum := "1453ecbc829ca8fbca33528a4edc20384633e5d9e02d61dfb05db3d827a6d956", func := "palaver/palaverlaw15.ChainPlays", spec := "chainPlays", unfollowed := true, recurses := true, apart := false }
def ChainPlaysSaid : Prop := chainPlaysRow.holds Try.pinned (OpenSpec.ofChange chainPlaysSpec)

/-- ITS FALSE NEIGHBOUR: 'it returns false'. Refute it at one input. -/
def chainPlaysWrong : ChangeSpec := { name := "chainPlays", fn := fun _ => fun
  | [d1, d2, d3, d4] => { results := [.lit (.bool false)], args := [d1, d2, d3, d4] }
  | _ => none }
def ChainPlaysWrongFalsely : Prop := chainPlaysRow.holds Try.pinned (OpenSpec.ofChange chainPlaysWrong)

/- THE SECOND FORM. 'bulk': how many values and letters a reading holds, each counted each time it is reached (what is shared counts as often as it is met; a slice's spare places count too). A statement '..UptoSaid' is the law's where the arguments, and the package variables that the reading takes, are together of bulk at most 1048576: NARROWER than '..Said'. Prove '..Said' where nothing that the law and all that it calls make is longer than what came in: it says more and counts as full. Else prove '..UptoSaid'. A law counts once. -/
mutual
def uptoBulk {H : Type} : DataW H → Nat
  | .lit (.string bytes) => bytes.length + 1
  | .lit _ => 1
  | .nil => 1
  | .ptr d => uptoBulk d + 1
  | .slice elems spare => uptoBulkAll elems + uptoBulkAll spare + 1
  | .agg parts => uptoBulkAll parts + 1
  | .iface _ d => uptoBulk d + 1
  | .map entries => uptoBulkEntries entries + 1
  | .held _ => 1
def uptoBulkAll {H : Type} : List (DataW H) → Nat
  | [] => 0
  | d :: r => uptoBulk d + uptoBulkAll r
def uptoBulkEntries {H : Type} : List (Lit × DataW H) → Nat
  | [] => 0
  | x :: r => uptoBulkEntry x + uptoBulkEntries r
def uptoBulkEntry {H : Type} : Lit × DataW H → Nat
  | (.string bytes, d) => bytes.length + uptoBulk d + 1
  | (_, d) => uptoBulk d + 1
 end
def uptoSmall : (H : Type) → List (DataW H) → Bool := fun _ ds => decide (uptoBulkAll ds ≤ 1048576)
def OpenSpec.upto (s : _root_.Go.ChangeSpec) : _root_.Go.OpenSpec := { _root_.Go.OpenSpec.ofChange s with cond := some uptoSmall }

/-- 'palaverlaw15.ChainAhead', WHERE WHAT IT READS IS OF BULK AT MOST 1048576: true; the input reads as it did. -/
def chainAheadUptoRow : OpenClaim := { program := "ytkcehpnppfmfnaa", sum := "1453ecbc829ca8fbca33528a4edc20384633e5d9e02d61dfb05db3d827a6d956", func := "palaver/palaverlaw15.ChainAhead", spec := "chainAhead", unfollowed := true, recurses := true, apart := false, narrowed := true }
def ChainAheadUptoSaid : Prop := chainAheadUptoRow.holds Try.pinned (OpenSpec.upto chainAheadSpec)

/-- 'palaverlaw15.ChainOf', WHERE WHAT IT READS IS OF BULK AT MOST 1048576: true; the input reads as it did. -/
def chainOfUptoRow : OpenClaim := { program := "ytkcehpnppfmfnaa", sum := "1453ecbc829ca8fbca33528a4edc20384633e5d9e02d61dfb05db3d827a6d956", func := "palaver/palaverlaw15.ChainOf", spec := "chainOf", unfollowed := true, recurses := true, apart := false, narrowed := true }
def ChainOfUptoSaid : Prop := chainOfUptoRow.holds Try.pinned (OpenSpec.upto chainOfSpec)

/-- 'palaverlaw15.ChainNil', WHERE WHAT IT READS IS OF BULK AT MOST 1048576: true; the input reads as it did. -/
def chainNilUptoRow : OpenClaim := { program := "ytkcehpnppfmfnaa", sum := "1453ecbc829ca8fbca33528a4edc20384633e5d9e02d61dfb05db3d827a6d956", func := "palaver/palaverlaw15.ChainNil", spec := "chainNil", unfollowed := true, recurses := true, apart := false, narrowed := true }
def ChainNilUptoSaid : Prop := chainNilUptoRow.holds Try.pinned (OpenSpec.upto chainNilSpec)

/-- 'palaverlaw15.ChainTails', WHERE WHAT IT READS IS OF BULK AT MOST 1048576: true; the input reads as it did. -/
def chainTailsUptoRow : OpenClaim := { program := "ytkcehpnppfmfnaa", sum := "1453ecbc829ca8fbca33528a4edc20384633e5d9e02d61dfb05db3d827a6d956", func := "palaver/palaverlaw15.ChainTails", spec := "chainTails", unfollowed := true, recurses := true, apart := false, narrowed := true }
def ChainTailsUptoSaid : Prop := chainTailsUptoRow.holds Try.pinned (OpenSpec.upto chainTailsSpec)

/-- 'palaverlaw15.ChainPlays', WHERE WHAT IT READS IS OF BULK AT MOST 1048576: true; the input reads as it did. -/
def chainPlaysUptoRow : OpenClaim := { program := "ytkcehpnppfmfnaa", sum := "1453ecbc829ca8fbca33528a4edc20384633e5d9e02d61dfb05db3d827a6d956", func := "palaver/palaverlaw15.ChainPlays", spec := "chainPlays", unfollowed := true, recurses := true, apart := false, narrowed := true }
def ChainPlaysUptoSaid : Prop := chainPlaysUptoRow.holds Try.pinned (OpenSpec.upto chainPlaysSpec)

end Rows
end Go.Proofs.Ytkcehpnppfmfnaa
