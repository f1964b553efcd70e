/-
  No cell of these rows narrows 'for every input' (looked for: loops, veiled, ifaces, maps, wideKeys, modest, calm, conditions, laid).
  DERIVED. THE GIVEN ROWS OF THIS SEAT. 12 by the template 'for every input the law returns true; each argument reads behind the call as it read before'; 0 by the template 'total and deterministic' (their statements: YtfhalijoljgafaaTotals.lean).
  GIVEN WITH THE SEED: the statements are not yours to turn. If you find one false, say at which input.
  Laid BY PROGRAM, IN A SANDBOX (cutbox-rows.mjs): the forced cells as the released guide's own fill.sh prints them over the translation d5f2d37f68d1d9a8… (all of the seat's roots in one cut). By AI agents, Wed Nov 11 2026. No macro, syntax, notation, axiom, sorry.
-/
import Derived.Test.YtfhalijoljgafaaChecked
import GoSem.Claim
import GoSem.ClaimJoined
import GoSem.ClaimMapViews
import Derived.JoinedTies
import Derived.KernelRfl
namespace Go.Proofs.Ytfhalijoljgafaa
/- THE CELL 'sum', in the pinned program and in every row, IS THE sha256 OF THE DUMP (.gsa) THAT YtfhalijoljgafaaProg.lean LOADS. Nothing in Lean hashes anything: it is a label: what it is worth is what the hold of that sum in a sandbox is worth. -/
noncomputable def Try.pinned : Pinned := { name := "ytfhalijoljgafaa", sum := "d5f2d37f68d1d9a8adde824814e4da468aa5c7748e0fecb4a136464538b6c5f0", checked := Try.checked }
namespace Rows
def none {H : Type} : Left H := { results := [], args := [] }

/-- 'laws.FnValidTree': WHATEVER THE INPUT: true; the input reads as it did. -/
def fnValidTreeSpec : ChangeSpec := { name := "fnValidTree", fn := fun _ => fun
  | [d] => { results := [.lit (.bool true)], args := [d] }
  | _ => none }
def fnValidTreeRow : OpenClaim := { program := "ytfhalijoljgafaa", sum := "d5f2d37f68d1d9a8adde824814e4da468aa5c7748e0fecb4a136464538b6c5f0", func := "loop.example/pagetree/laws.FnValidTree", spec := "fnValidTree", recurses := true, apart := false }
def FnValidTreeSaid : Prop := fnValidTreeRow.holds Try.pinned (OpenSpec.ofChange fnValidTreeSpec)

/-- ITS FALSE NEIGHBOUR: 'it returns false'. Refute it at one input. -/
def fnValidTreeWrong : ChangeSpec := { name := "fnValidTree", fn := fun _ => fun
  | [d] => { results := [.lit (.bool false)], args := [d] }
  | _ => none }
def FnValidTreeWrongFalsely : Prop := fnValidTreeRow.holds Try.pinned (OpenSpec.ofChange fnValidTreeWrong)

/-- 'laws.FnValidTreeRoot': WHATEVER THE INPUT: true; the input reads as it did. -/
def fnValidTreeRootSpec : ChangeSpec := { name := "fnValidTreeRoot", fn := fun _ => fun
  | [d] => { results := [.lit (.bool true)], args := [d] }
  | _ => none }
def fnValidTreeRootRow : OpenClaim := { program := "ytfhalijoljgafaa", sum := "d5f2d37f68d1d9a8adde824814e4da468aa5c7748e0fecb4a136464538b6c5f0", func := "loop.example/pagetree/laws.FnValidTreeRoot", spec := "fnValidTreeRoot", recurses := true, apart := false }
def FnValidTreeRootSaid : Prop := fnValidTreeRootRow.holds Try.pinned (OpenSpec.ofChange fnValidTreeRootSpec)

/-- ITS FALSE NEIGHBOUR: 'it returns false'. Refute it at one input. -/
def fnValidTreeRootWrong : ChangeSpec := { name := "fnValidTreeRoot", fn := fun _ => fun
  | [d] => { results := [.lit (.bool false)], args := [d] }
  | _ => none }
def FnValidTreeRootWrongFalsely : Prop := fnValidTreeRootRow.holds Try.pinned (OpenSpec.ofChange fnValidTreeRootWrong)

/-- 'laws.FnLeavesOf': WHATEVER THE INPUT: true; the input reads as it did. -/
def fnLeavesOfSpec : ChangeSpec := { name := "fnLeavesOf", fn := fun _ => fun
  | [d] => { results := [.lit (.bool true)], args := [d] }
  | _ => none }
def fnLeavesOfRow : OpenClaim := { program := "ytfhalijoljgafaa", sum := "d5f2d37f68d1d9a8adde824814e4da468aa5c7748e0fecb4a136464538b6c5f0", func := "loop.example/pagetree/laws.FnLeavesOf", spec := "fnLeavesOf", recurses := true, apart := false }
def FnLeavesOfSaid : Prop := fnLeavesOfRow.holds Try.pinned (OpenSpec.ofChange fnLeavesOfSpec)

/-- ITS FALSE NEIGHBOUR: 'it returns false'. Refute it at one input. -/
def fnLeavesOfWrong : ChangeSpec := { name := "fnLeavesOf", fn := fun _ => fun
  | [d] => { results := [.lit (.bool false)], args := [d] }
  | _ => none }
def FnLeavesOfWrongFalsely : Prop := fnLeavesOfRow.holds Try.pinned (OpenSpec.ofChange fnLeavesOfWrong)

/-- 'laws.FnFillOf': WHATEVER THE INPUT: true; the input reads as it did. -/
def fnFillOfSpec : ChangeSpec := { name := "fnFillOf", fn := fun _ => fun
  | [d] => { results := [.lit (.bool true)], args := [d] }
  | _ => none }
def fnFillOfRow : OpenClaim := { program := "ytfhalijoljgafaa", sum := "d5f2d37f68d1d9a8adde824814e4da468aa5c7748e0fecb4a136464538b6c5f0", func := "loop.example/pagetree/laws.FnFillOf", spec := "fnFillOf", recurses := true, apart := false }
def FnFillOfSaid : Prop := fnFillOfRow.holds Try.pinned (OpenSpec.ofChange fnFillOfSpec)

/-- ITS FALSE NEIGHBOUR: 'it returns false'. Refute it at one input. -/
def fnFillOfWrong : ChangeSpec := { name := "fnFillOf", fn := fun _ => fun
  | [d] => { results := [.lit (.bool false)], args := [d] }
  | _ => none }
def FnFillOfWrongFalsely : Prop := fnFillOfRow.holds Try.pinned (OpenSpec.ofChange fnFillOfWrong)

/-- 'laws.FnHeightOf': WHATEVER THE INPUT: true; the input reads as it did. -/
def fnHeightOfSpec : ChangeSpec := { name := "fnHeightOf", fn := fun _ => fun
  | [d] => { results := [.lit (.bool true)], args := [d] }
  | _ => none }
def fnHeightOfRow : OpenClaim := { program := "ytfhalijoljgafaa", sum := "d5f2d37f68d1d9a8adde824814e4da468aa5c7748e0fecb4a136464538b6c5f0", func := "loop.example/pagetree/laws.FnHeightOf", spec := "fnHeightOf", unfollowed := true, recurses := true, apart := false }
def FnHeightOfSaid : Prop := fnHeightOfRow.holds Try.pinned (OpenSpec.ofChange fnHeightOfSpec)

/-- ITS FALSE NEIGHBOUR: 'it returns false'. Refute it at one input. -/
def fnHeightOfWrong : ChangeSpec := { name := "fnHeightOf", fn := fun _ => fun
  | [d] => { results := [.lit (.bool false)], args := [d] }
  | _ => none }
def FnHeightOfWrongFalsely : Prop := fnHeightOfRow.holds Try.pinned (OpenSpec.ofChange fnHeightOfWrong)

/-- 'laws.FnHeightOfPairs': WHATEVER THE INPUT: true; the input reads as it did. -/
def fnHeightOfPairsSpec : ChangeSpec := { name := "fnHeightOfPairs", fn := fun _ => fun
  | [d] => { results := [.lit (.bool true)], args := [d] }
  | _ => none }
def fnHeightOfPairsRow : OpenClaim := { program := "ytfhalijoljgafaa", sum := "d5f2d37f68d1d9a8adde824814e4da468aa5c7748e0fecb4a136464538b6c5f0", func := "loop.example/pagetree/laws.FnHeightOfPairs", spec := "fnHeightOfPairs", recurses := true, apart := false }
def FnHeightOfPairsSaid : Prop := fnHeightOfPairsRow.holds Try.pinned (OpenSpec.ofChange fnHeightOfPairsSpec)

/-- ITS FALSE NEIGHBOUR: 'it returns false'. Refute it at one input. -/
def fnHeightOfPairsWrong : ChangeSpec := { name := "fnHeightOfPairs", fn := fun _ => fun
  | [d] => { results := [.lit (.bool false)], args := [d] }
  | _ => none }
def FnHeightOfPairsWrongFalsely : Prop := fnHeightOfPairsRow.holds Try.pinned (OpenSpec.ofChange fnHeightOfPairsWrong)

/-- 'laws.FnPairsOfCount': WHATEVER THE INPUT: true; the input reads as it did. -/
def fnPairsOfCountSpec : ChangeSpec := { name := "fnPairsOfCount", fn := fun _ => fun
  | [d] => { results := [.lit (.bool true)], args := [d] }
  | _ => none }
def fnPairsOfCountRow : OpenClaim := { program := "ytfhalijoljgafaa", sum := "d5f2d37f68d1d9a8adde824814e4da468aa5c7748e0fecb4a136464538b6c5f0", func := "loop.example/pagetree/laws.FnPairsOfCount", spec := "fnPairsOfCount", recurses := true, apart := false }
def FnPairsOfCountSaid : Prop := fnPairsOfCountRow.holds Try.pinned (OpenSpec.ofChange fnPairsOfCountSpec)

/-- ITS FALSE NEIGHBOUR: 'it returns false'. Refute it at one input. -/
def fnPairsOfCountWrong : ChangeSpec := { name := "fnPairsOfCount", fn := fun _ => fun
  | [d] => { results := [.lit (.bool false)], args := [d] }
  | _ => none }
def FnPairsOfCountWrongFalsely : Prop := fnPairsOfCountRow.holds Try.pinned (OpenSpec.ofChange fnPairsOfCountWrong)

/-- 'laws.FnLeavesOfPairs': WHATEVER THE INPUT: true; the input reads as it did. -/
def fnLeavesOfPairsSpec : ChangeSpec := { name := "fnLeavesOfPairs", fn := fun _ => fun
  | [d] => { results := [.lit (.bool true)], args := [d] }
  | _ => none }
def fnLeavesOfPairsRow : OpenClaim := { program := "ytfhalijoljgafaa", sum := "d5f2d37f68d1d9a8adde824814e4da468aa5c7748e0fecb4a136464538b6c5f0", func := "loop.example/pagetree/laws.FnLeavesOfPairs", spec := "fnLeavesOfPairs", recurses := true, apart := false }
def FnLeavesOfPairsSaid : Prop := fnLeavesOfPairsRow.holds Try.pinned (OpenSpec.ofChange fnLeavesOfPairsSpec)

/-- ITS FALSE NEIGHBOUR: 'it returns false'. Refute it at one input. -/
def fnLeavesOfPairsWrong : ChangeSpec := { name := "fnLeavesOfPairs", fn := fun _ => fun
  | [d] => { results := [.lit (.bool false)], args := [d] }
  | _ => none }
def FnLeavesOfPairsWrongFalsely : Prop := fnLeavesOfPairsRow.holds Try.pinned (OpenSpec.ofChange fnLeavesOfPairsWrong)

/-- 'laws.FnSameTree': WHATEVER THE INPUT: true; the input reads as it did. -/
def fnSameTreeSpec : ChangeSpec := { name := "fnSameTree", fn := fun _ => fun
  | [d] => { results := [.lit (.bool true)], args := [d] }
  | _ => none }
def fnSameTreeRow : OpenClaim := { program := "ytfhalijoljgafaa", sum := "d5f2d37f68d1d9a8adde824814e4da468aa5c7748e0fecb4a136464538b6c5f0", func := "loop.example/pagetree/laws.FnSameTree", spec := "fnSameTree", recurses := true, apart := false }
def FnSameTreeSaid : Prop := fnSameTreeRow.holds Try.pinned (OpenSpec.ofChange fnSameTreeSpec)

/-- ITS FALSE NEIGHBOUR: 'it returns false'. Refute it at one input. -/
def fnSameTreeWrong : ChangeSpec := { name := "fnSameTree", fn := fun _ => fun
  | [d] => { results := [.lit (.bool false)], args := [d] }
  | _ => none }
def FnSameTreeWrongFalsely : Prop := fnSameTreeRow.holds Try.pinned (OpenSpec.ofChange fnSameTreeWrong)

/-- 'laws.FnFitsPage': WHATEVER THE INPUT: true; the input reads as it did. -/
def fnFitsPageSpec : ChangeSpec := { name := "fnFitsPage", fn := fun _ => fun
  | [d] => { results := [.lit (.bool true)], args := [d] }
  | _ => none }
def fnFitsPageRow : OpenClaim := { program := "ytfhalijoljgafaa", sum := "d5f2d37f68d1d9a8adde824814e4da468aa5c7748e0fecb4a136464538b6c5f0", func := "loop.example/pagetree/laws.FnFitsPage", spec := "fnFitsPage", recurses := true, apart := false }
def FnFitsPageSaid : Prop := fnFitsPageRow.holds Try.pinned (OpenSpec.ofChange fnFitsPageSpec)

/-- ITS FALSE NEIGHBOUR: 'it returns false'. Refute it at one input. -/
def fnFitsPageWrong : ChangeSpec := { name := "fnFitsPage", fn := fun _ => fun
  | [d] => { results := [.lit (.bool false)], args := [d] }
  | _ => none }
def FnFitsPageWrongFalsely : Prop := fnFitsPageRow.holds Try.pinned (OpenSpec.ofChange fnFitsPageWrong)

/-- 'laws.FnFitsPageEmpty': WHATEVER THE INPUT: true; the input reads as it did. -/
def fnFitsPageEmptySpec : ChangeSpec := { name := "fnFitsPageEmpty", fn := fun _ => fun
  | [d] => { results := [.lit (.bool true)], args := [d] }
  | _ => none }
def fnFitsPageEmptyRow : OpenClaim := { program := "ytfhalijoljgafaa", sum := "d5f2d37f68d1d9a8adde824814e4da468aa5c7748e0fecb4a136464538b6c5f0", func := "loop.example/pagetree/laws.FnFitsPageEmpty", spec := "fnFitsPageEmpty", recurses := true, apart := false }
def FnFitsPageEmptySaid : Prop := fnFitsPageEmptyRow.holds Try.pinned (OpenSpec.ofChange fnFitsPageEmptySpec)

/-- ITS FALSE NEIGHBOUR: 'it returns false'. Refute it at one input. -/
def fnFitsPageEmptyWrong : ChangeSpec := { name := "fnFitsPageEmpty", fn := fun _ => fun
  | [d] => { results := [.lit (.bool false)], args := [d] }
  | _ => none }
def FnFitsPageEmptyWrongFalsely : Prop := fnFitsPageEmptyRow.holds Try.pinned (OpenSpec.ofChange fnFitsPageEmptyWrong)

/-- 'laws.FnPackPageLength': WHATEVER THE INPUT: true; the input reads as it did. -/
def fnPackPageLengthSpec : ChangeSpec := { name := "fnPackPageLength", fn := fun _ => fun
  | [d] => { results := [.lit (.bool true)], args := [d] }
  | _ => none }
def fnPackPageLengthRow : OpenClaim := { program := "ytfhalijoljgafaa", sum := "d5f2d37f68d1d9a8adde824814e4da468aa5c7748e0fecb4a136464538b6c5f0", func := "loop.example/pagetree/laws.FnPackPageLength", spec := "fnPackPageLength", recurses := true, apart := false }
def FnPackPageLengthSaid : Prop := fnPackPageLengthRow.holds Try.pinned (OpenSpec.ofChange fnPackPageLengthSpec)

/-- ITS FALSE NEIGHBOUR: 'it returns false'. Refute it at one input. -/
def fnPackPageLengthWrong : ChangeSpec := { name := "fnPackPageLength", fn := fun _ => fun
  | [d] => { results := [.lit (.bool false)], args := [d] }
  | _ => none }
def FnPackPageLengthWrongFalsely : Prop := fnPackPageLengthRow.holds Try.pinned (OpenSpec.ofChange fnPackPageLengthWrong)

/- THE SECOND FORM. 'bulk': how many values and letters a reading holds, each counted each time it is reached (what is shared counts as often as it is met; a slice's spare places count too). A statement '..UptoSaid' is the law's where the arguments, and the package variables that the reading takes, are together of bulk at most 1048576: NARROWER than '..Said'. Prove '..Said' where nothing that the law and all that it calls make is longer than what came in: it says more and counts as full. Else prove '..UptoSaid'. A law counts once. -/
mutual
def uptoBulk {H : Type} : DataW H → Nat
  | .lit (.string bytes) => bytes.length + 1
  | .lit _ => 1
  | .nil => 1
  | .ptr d => uptoBulk d + 1
  | .slice elems spare => uptoBulkAll elems + uptoBulkAll spare + 1
  | .agg parts => uptoBulkAll parts + 1
  | .iface _ d => uptoBulk d + 1
  | .map entries => uptoBulkEntries entries + 1
  | .held _ => 1
def uptoBulkAll {H : Type} : List (DataW H) → Nat
  | [] => 0
  | d :: r => uptoBulk d + uptoBulkAll r
def uptoBulkEntries {H : Type} : List (Lit × DataW H) → Nat
  | [] => 0
  | x :: r => uptoBulkEntry x + uptoBulkEntries r
def uptoBulkEntry {H : Type} : Lit × DataW H → Nat
  | (.string bytes, d) => bytes.length + uptoBulk d + 1
  | (_, d) => uptoBulk d + 1
 end
def uptoSmall : (H : Type) → List (DataW H) → Bool := fun _ ds => decide (uptoBulkAll ds ≤ 1048576)
def OpenSpec.upto (s : _root_.Go.ChangeSpec) : _root_.Go.OpenSpec := { _root_.Go.OpenSpec.ofChange s with cond := some uptoSmall }

/-- 'laws.FnValidTree', WHERE WHAT IT READS IS OF BULK AT MOST 1048576: true; the input reads as it did. -/
def fnValidTreeUptoRow : OpenClaim := { program := "ytfhalijoljgafaa", sum := "d5f2d37f68d1d9a8adde824814e4da468aa5c7748e0fecb4a136464538b6c5f0", func := "loop.example/pagetree/laws.FnValidTree", spec := "fnValidTree", recurses := true, apart := false, narrowed := true }
def FnValidTreeUptoSaid : Prop := fnValidTreeUptoRow.holds Try.pinned (OpenSpec.upto fnValidTreeSpec)

/-- 'laws.FnValidTreeRoot', WHERE WHAT IT READS IS OF BULK AT MOST 1048576: true; the input reads as it did. -/
def fnValidTreeRootUptoRow : OpenClaim := { program := "ytfhalijoljgafaa", sum := "d5f2d37f68d1d9a8adde824814e4da468aa5c7748e0fecb4a136464538b6c5f0", func := "loop.example/pagetree/laws.FnValidTreeRoot", spec := "fnValidTreeRoot", recurses := true, apart := false, narrowed := true }
def FnValidTreeRootUptoSaid : Prop := fnValidTreeRootUptoRow.holds Try.pinned (OpenSpec.upto fnValidTreeRootSpec)

/-- 'laws.FnLeavesOf', WHERE WHAT IT READS IS OF BULK AT MOST 1048576: true; the input reads as it did. -/
def fnLeavesOfUptoRow : OpenClaim := { program := "ytfhalijoljgafaa", sum := "d5f2d37f68d1d9a8adde824814e4da468aa5c7748e0fecb4a136464538b6c5f0", func := "loop.example/pagetree/laws.FnLeavesOf", spec := "fnLeavesOf", recurses := true, apart := false, narrowed := true }
def FnLeavesOfUptoSaid : Prop := fnLeavesOfUptoRow.holds Try.pinned (OpenSpec.upto fnLeavesOfSpec)

/-- 'laws.FnFillOf', WHERE WHAT IT READS IS OF BULK AT MOST 1048576: true; the input reads as it did. -/
def fnFillOfUptoRow : OpenClaim := { program := "ytfhalijoljgafaa", sum := "d5f2d37f68d1d9a8adde824814e4da468aa5c7748e0fecb4a136464538b6c5f0", func := "loop.example/pagetree/laws.FnFillOf", spec := "fnFillOf", recurses := true, apart := false, narrowed := true }
def FnFillOfUptoSaid : Prop := fnFillOfUptoRow.holds Try.pinned (OpenSpec.upto fnFillOfSpec)

/-- 'laws.FnHeightOf', WHERE WHAT IT READS IS OF BULK AT MOST 1048576: true; the input reads as it did. -/
def fnHeightOfUptoRow : OpenClaim := { program := "ytfhalijoljgafaa", sum := "d5f2d37f68d1d9a8adde824814e4da468aa5c7748e0fecb4a136464538b6c5f0", func := "loop.example/pagetree/laws.FnHeightOf", spec := "fnHeightOf", unfollowed := true, recurses := true, apart := false, narrowed := true }
def FnHeightOfUptoSaid : Prop := fnHeightOfUptoRow.holds Try.pinned (OpenSpec.upto fnHeightOfSpec)

/-- 'laws.FnHeightOfPairs', WHERE WHAT IT READS IS OF BULK AT MOST 1048576: true; the input reads as it did. -/
def fnHeightOfPairsUptoRow : OpenClaim := { program := "ytfhalijoljgafaa", sum := "d5f2d37f68d1d9a8adde824814e4da468aa5c7748e0fecb4a136464538b6c5f0", func := "loop.example/pagetree/laws.FnHeightOfPairs", spec := "fnHeightOfPairs", recurses := true, apart := false, narrowed := true }
def FnHeightOfPairsUptoSaid : Prop := fnHeightOfPairsUptoRow.holds Try.pinned (OpenSpec.upto fnHeightOfPairsSpec)

/-- 'laws.FnPairsOfCount', WHERE WHAT IT READS IS OF BULK AT MOST 1048576: true; the input reads as it did. -/
def fnPairsOfCountUptoRow : OpenClaim := { program := "ytfhalijoljgafaa", sum := "d5f2d37f68d1d9a8adde824814e4da468aa5c7748e0fecb4a136464538b6c5f0", func := "loop.example/pagetree/laws.FnPairsOfCount", spec := "fnPairsOfCount", recurses := true, apart := false, narrowed := true }
def FnPairsOfCountUptoSaid : Prop := fnPairsOfCountUptoRow.holds Try.pinned (OpenSpec.upto fnPairsOfCountSpec)

/-- 'laws.FnLeavesOfPairs', WHERE WHAT IT READS IS OF BULK AT MOST 1048576: true; the input reads as it did. -/
def fnLeavesOfPairsUptoRow : OpenClaim := { program := "ytfhalijoljgafaa", sum := "d5f2d37f68d1d9a8adde824814e4da468aa5c7748e0fecb4a136464538b6c5f0", func := "loop.example/pagetree/laws.FnLeavesOfPairs", spec := "fnLeavesOfPairs", recurses := true, apart := false, narrowed := true }
def FnLeavesOfPairsUptoSaid : Prop := fnLeavesOfPairsUptoRow.holds Try.pinned (OpenSpec.upto fnLeavesOfPairsSpec)

/-- 'laws.FnSameTree', WHERE WHAT IT READS IS OF BULK AT MOST 1048576: true; the input reads as it did. -/
def fnSameTreeUptoRow : OpenClaim := { program := "ytfhalijoljgafaa", sum := "d5f2d37f68d1d9a8adde824814e4da468aa5c7748e0fecb4a136464538b6c5f0", func := "loop.example/pagetree/laws.FnSameTree", spec := "fnSameTree", recurses := true, apart := false, narrowed := true }
def FnSameTreeUptoSaid : Prop := fnSameTreeUptoRow.holds Try.pinned (OpenSpec.upto fnSameTreeSpec)

/-- 'laws.FnFitsPage', WHERE WHAT IT READS IS OF BULK AT MOST 1048576: true; the input reads as it did. -/
def fnFitsPageUptoRow : OpenClaim := { program := "ytfhalijoljgafaa", sum := "d5f2d37f68d1d9a8adde824814e4da468aa5c7748e0fecb4a136464538b6c5f0", func := "loop.example/pagetree/laws.FnFitsPage", spec := "fnFitsPage", recurses := true, apart := false, narrowed := true }
def FnFitsPageUptoSaid : Prop := fnFitsPageUptoRow.holds Try.pinned (OpenSpec.upto fnFitsPageSpec)

/-- 'laws.FnFitsPageEmpty', WHERE WHAT IT READS IS OF BULK AT MOST 1048576: true; the input reads as it did. -/
def fnFitsPageEmptyUptoRow : OpenClaim := { program := "ytfhalijoljgafaa", sum := "d5f2d37f68d1d9a8adde824814e4da468aa5c7748e0fecb4a136464538b6c5f0", func := "loop.example/pagetree/laws.FnFitsPageEmpty", spec := "fnFitsPageEmpty", recurses := true, apart := false, narrowed := true }
def FnFitsPageEmptyUptoSaid : Prop := fnFitsPageEmptyUptoRow.holds Try.pinned (OpenSpec.upto fnFitsPageEmptySpec)

/-- 'laws.FnPackPageLength', WHERE WHAT IT READS IS OF BULK AT MOST 1048576: true; the input reads as it did. -/
def fnPackPageLengthUptoRow : OpenClaim := { program := "ytfhalijoljgafaa", sum := "d5f2d37f68d1d9a8adde824814e4da468aa5c7748e0fecb4a136464538b6c5f0", func := "loop.example/pagetree/laws.FnPackPageLength", spec := "fnPackPageLength", recurses := true, apart := false, narrowed := true }
def FnPackPageLengthUptoSaid : Prop := fnPackPageLengthUptoRow.holds Try.pinned (OpenSpec.upto fnPackPageLengthSpec)

end Rows
end Go.Proofs.Ytfhalijoljgafaa
