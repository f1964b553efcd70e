/-
  No cell of these rows narrows 'for every input' (looked for: loops, veiled, ifaces, maps, wideKeys, modest, calm, conditions, laid).
  DERIVED. THE GIVEN ROWS OF THIS SEAT. 11 by the template 'for every input the law returns true; each argument reads behind the call as it read before'; 0 by the template 'total and deterministic' (their statements: YtanckppjkbfbfaaTotals.lean).
  GIVEN WITH THE SEED: the statements are not yours to turn. If you find one false, say at which input.
  Laid BY PROGRAM, IN A SANDBOX (cutbox-rows.mjs): the forced cells as the released guide's own fill.sh prints them over the translation 1380dd198b94fce9… (all of the seat's roots in one cut). By AI agents, Wed Nov 11 2026. No macro, syntax, notation, axiom, sorry.
-/
import Derived.Test.YtanckppjkbfbfaaChecked
import GoSem.Claim
import GoSem.ClaimJoined
import GoSem.ClaimMapViews
import Derived.JoinedTies
import Derived.KernelRfl
namespace Go.Proofs.Ytanckppjkbfbfaa
/- THE CELL 'sum', in the pinned program and in every row, IS THE sha256 OF THE DUMP (.gsa) THAT YtanckppjkbfbfaaProg.lean LOADS. Nothing in Lean hashes anything: it is a label: what it is worth is what the hold of that sum in a sandbox is worth. -/
noncomputable def Try.pinned : Pinned := { name := "ytanckppjkbfbfaa", sum := "1380dd198b94fce9bffb1c2e65ca90f6a920b9e4ea98613ab386e09efb2dd8cd", checked := Try.checked }
namespace Rows
def none {H : Type} : Left H := { results := [], args := [] }

/-- 'laws.FnPathTo': WHATEVER THE INPUT: true; the input reads as it did. -/
def fnPathToSpec : ChangeSpec := { name := "fnPathTo", fn := fun _ => fun
  | [d] => { results := [.lit (.bool true)], args := [d] }
  | _ => none }
def fnPathToRow : OpenClaim := { program := "ytanckppjkbfbfaa", sum := "1380dd198b94fce9bffb1c2e65ca90f6a920b9e4ea98613ab386e09efb2dd8cd", func := "loop.example/pagetree/laws.FnPathTo", spec := "fnPathTo", unfollowed := true, recurses := true, apart := false }
def FnPathToSaid : Prop := fnPathToRow.holds Try.pinned (OpenSpec.ofChange fnPathToSpec)

/-- ITS FALSE NEIGHBOUR: 'it returns false'. Refute it at one input. -/
def fnPathToWrong : ChangeSpec := { name := "fnPathTo", fn := fun _ => fun
  | [d] => { results := [.lit (.bool false)], args := [d] }
  | _ => none }
def FnPathToWrongFalsely : Prop := fnPathToRow.holds Try.pinned (OpenSpec.ofChange fnPathToWrong)

/-- 'laws.FnPathToOrder': WHATEVER THE INPUT: true; the input reads as it did. -/
def fnPathToOrderSpec : ChangeSpec := { name := "fnPathToOrder", fn := fun _ => fun
  | [d] => { results := [.lit (.bool true)], args := [d] }
  | _ => none }
def fnPathToOrderRow : OpenClaim := { program := "ytanckppjkbfbfaa", sum := "1380dd198b94fce9bffb1c2e65ca90f6a920b9e4ea98613ab386e09efb2dd8cd", func := "loop.example/pagetree/laws.FnPathToOrder", spec := "fnPathToOrder", unfollowed := true, recurses := true, apart := false }
def FnPathToOrderSaid : Prop := fnPathToOrderRow.holds Try.pinned (OpenSpec.ofChange fnPathToOrderSpec)

/-- ITS FALSE NEIGHBOUR: 'it returns false'. Refute it at one input. -/
def fnPathToOrderWrong : ChangeSpec := { name := "fnPathToOrder", fn := fun _ => fun
  | [d] => { results := [.lit (.bool false)], args := [d] }
  | _ => none }
def FnPathToOrderWrongFalsely : Prop := fnPathToOrderRow.holds Try.pinned (OpenSpec.ofChange fnPathToOrderWrong)

/-- 'laws.FnLeavesOfFirst': WHATEVER THE INPUT: true; the input reads as it did. -/
def fnLeavesOfFirstSpec : ChangeSpec := { name := "fnLeavesOfFirst", fn := fun _ => fun
  | [d] => { results := [.lit (.bool true)], args := [d] }
  | _ => none }
def fnLeavesOfFirstRow : OpenClaim := { program := "ytanckppjkbfbfaa", sum := "1380dd198b94fce9bffb1c2e65ca90f6a920b9e4ea98613ab386e09efb2dd8cd", func := "loop.example/pagetree/laws.FnLeavesOfFirst", spec := "fnLeavesOfFirst", unfollowed := true, recurses := true, apart := false }
def FnLeavesOfFirstSaid : Prop := fnLeavesOfFirstRow.holds Try.pinned (OpenSpec.ofChange fnLeavesOfFirstSpec)

/-- ITS FALSE NEIGHBOUR: 'it returns false'. Refute it at one input. -/
def fnLeavesOfFirstWrong : ChangeSpec := { name := "fnLeavesOfFirst", fn := fun _ => fun
  | [d] => { results := [.lit (.bool false)], args := [d] }
  | _ => none }
def FnLeavesOfFirstWrongFalsely : Prop := fnLeavesOfFirstRow.holds Try.pinned (OpenSpec.ofChange fnLeavesOfFirstWrong)

/-- 'laws.FnRankOf': WHATEVER THE INPUT: true; the input reads as it did. -/
def fnRankOfSpec : ChangeSpec := { name := "fnRankOf", fn := fun _ => fun
  | [d] => { results := [.lit (.bool true)], args := [d] }
  | _ => none }
def fnRankOfRow : OpenClaim := { program := "ytanckppjkbfbfaa", sum := "1380dd198b94fce9bffb1c2e65ca90f6a920b9e4ea98613ab386e09efb2dd8cd", func := "loop.example/pagetree/laws.FnRankOf", spec := "fnRankOf", unfollowed := true, recurses := true, apart := false }
def FnRankOfSaid : Prop := fnRankOfRow.holds Try.pinned (OpenSpec.ofChange fnRankOfSpec)

/-- ITS FALSE NEIGHBOUR: 'it returns false'. Refute it at one input. -/
def fnRankOfWrong : ChangeSpec := { name := "fnRankOf", fn := fun _ => fun
  | [d] => { results := [.lit (.bool false)], args := [d] }
  | _ => none }
def FnRankOfWrongFalsely : Prop := fnRankOfRow.holds Try.pinned (OpenSpec.ofChange fnRankOfWrong)

/-- 'laws.FnRankOfAll': WHATEVER THE INPUT: true; the input reads as it did. -/
def fnRankOfAllSpec : ChangeSpec := { name := "fnRankOfAll", fn := fun _ => fun
  | [d] => { results := [.lit (.bool true)], args := [d] }
  | _ => none }
def fnRankOfAllRow : OpenClaim := { program := "ytanckppjkbfbfaa", sum := "1380dd198b94fce9bffb1c2e65ca90f6a920b9e4ea98613ab386e09efb2dd8cd", func := "loop.example/pagetree/laws.FnRankOfAll", spec := "fnRankOfAll", unfollowed := true, recurses := true, apart := false }
def FnRankOfAllSaid : Prop := fnRankOfAllRow.holds Try.pinned (OpenSpec.ofChange fnRankOfAllSpec)

/-- ITS FALSE NEIGHBOUR: 'it returns false'. Refute it at one input. -/
def fnRankOfAllWrong : ChangeSpec := { name := "fnRankOfAll", fn := fun _ => fun
  | [d] => { results := [.lit (.bool false)], args := [d] }
  | _ => none }
def FnRankOfAllWrongFalsely : Prop := fnRankOfAllRow.holds Try.pinned (OpenSpec.ofChange fnRankOfAllWrong)

/-- 'laws.FnScanKeys': WHATEVER THE INPUT: true; the input reads as it did. -/
def fnScanKeysSpec : ChangeSpec := { name := "fnScanKeys", fn := fun _ => fun
  | [d] => { results := [.lit (.bool true)], args := [d] }
  | _ => none }
def fnScanKeysRow : OpenClaim := { program := "ytanckppjkbfbfaa", sum := "1380dd198b94fce9bffb1c2e65ca90f6a920b9e4ea98613ab386e09efb2dd8cd", func := "loop.example/pagetree/laws.FnScanKeys", spec := "fnScanKeys", recurses := true, apart := false }
def FnScanKeysSaid : Prop := fnScanKeysRow.holds Try.pinned (OpenSpec.ofChange fnScanKeysSpec)

/-- ITS FALSE NEIGHBOUR: 'it returns false'. Refute it at one input. -/
def fnScanKeysWrong : ChangeSpec := { name := "fnScanKeys", fn := fun _ => fun
  | [d] => { results := [.lit (.bool false)], args := [d] }
  | _ => none }
def FnScanKeysWrongFalsely : Prop := fnScanKeysRow.holds Try.pinned (OpenSpec.ofChange fnScanKeysWrong)

/-- 'laws.FnScanKeysMany': WHATEVER THE INPUT: true; the input reads as it did. -/
def fnScanKeysManySpec : ChangeSpec := { name := "fnScanKeysMany", fn := fun _ => fun
  | [d] => { results := [.lit (.bool true)], args := [d] }
  | _ => none }
def fnScanKeysManyRow : OpenClaim := { program := "ytanckppjkbfbfaa", sum := "1380dd198b94fce9bffb1c2e65ca90f6a920b9e4ea98613ab386e09efb2dd8cd", func := "loop.example/pagetree/laws.FnScanKeysMany", spec := "fnScanKeysMany", recurses := true, apart := false }
def FnScanKeysManySaid : Prop := fnScanKeysManyRow.holds Try.pinned (OpenSpec.ofChange fnScanKeysManySpec)

/-- ITS FALSE NEIGHBOUR: 'it returns false'. Refute it at one input. -/
def fnScanKeysManyWrong : ChangeSpec := { name := "fnScanKeysMany", fn := fun _ => fun
  | [d] => { results := [.lit (.bool false)], args := [d] }
  | _ => none }
def FnScanKeysManyWrongFalsely : Prop := fnScanKeysManyRow.holds Try.pinned (OpenSpec.ofChange fnScanKeysManyWrong)

/-- 'laws.FnScanKeysAll': WHATEVER THE INPUT: true; the input reads as it did. -/
def fnScanKeysAllSpec : ChangeSpec := { name := "fnScanKeysAll", fn := fun _ => fun
  | [d] => { results := [.lit (.bool true)], args := [d] }
  | _ => none }
def fnScanKeysAllRow : OpenClaim := { program := "ytanckppjkbfbfaa", sum := "1380dd198b94fce9bffb1c2e65ca90f6a920b9e4ea98613ab386e09efb2dd8cd", func := "loop.example/pagetree/laws.FnScanKeysAll", spec := "fnScanKeysAll", recurses := true, apart := false }
def FnScanKeysAllSaid : Prop := fnScanKeysAllRow.holds Try.pinned (OpenSpec.ofChange fnScanKeysAllSpec)

/-- ITS FALSE NEIGHBOUR: 'it returns false'. Refute it at one input. -/
def fnScanKeysAllWrong : ChangeSpec := { name := "fnScanKeysAll", fn := fun _ => fun
  | [d] => { results := [.lit (.bool false)], args := [d] }
  | _ => none }
def FnScanKeysAllWrongFalsely : Prop := fnScanKeysAllRow.holds Try.pinned (OpenSpec.ofChange fnScanKeysAllWrong)

/-- 'laws.FnNextKey': WHATEVER THE INPUT: true; the input reads as it did. -/
def fnNextKeySpec : ChangeSpec := { name := "fnNextKey", fn := fun _ => fun
  | [d] => { results := [.lit (.bool true)], args := [d] }
  | _ => none }
def fnNextKeyRow : OpenClaim := { program := "ytanckppjkbfbfaa", sum := "1380dd198b94fce9bffb1c2e65ca90f6a920b9e4ea98613ab386e09efb2dd8cd", func := "loop.example/pagetree/laws.FnNextKey", spec := "fnNextKey", recurses := true, apart := false }
def FnNextKeySaid : Prop := fnNextKeyRow.holds Try.pinned (OpenSpec.ofChange fnNextKeySpec)

/-- ITS FALSE NEIGHBOUR: 'it returns false'. Refute it at one input. -/
def fnNextKeyWrong : ChangeSpec := { name := "fnNextKey", fn := fun _ => fun
  | [d] => { results := [.lit (.bool false)], args := [d] }
  | _ => none }
def FnNextKeyWrongFalsely : Prop := fnNextKeyRow.holds Try.pinned (OpenSpec.ofChange fnNextKeyWrong)

/-- 'laws.FnNextKeyWalk': WHATEVER THE INPUT: true; the input reads as it did. -/
def fnNextKeyWalkSpec : ChangeSpec := { name := "fnNextKeyWalk", fn := fun _ => fun
  | [d] => { results := [.lit (.bool true)], args := [d] }
  | _ => none }
def fnNextKeyWalkRow : OpenClaim := { program := "ytanckppjkbfbfaa", sum := "1380dd198b94fce9bffb1c2e65ca90f6a920b9e4ea98613ab386e09efb2dd8cd", func := "loop.example/pagetree/laws.FnNextKeyWalk", spec := "fnNextKeyWalk", recurses := true, apart := false }
def FnNextKeyWalkSaid : Prop := fnNextKeyWalkRow.holds Try.pinned (OpenSpec.ofChange fnNextKeyWalkSpec)

/-- ITS FALSE NEIGHBOUR: 'it returns false'. Refute it at one input. -/
def fnNextKeyWalkWrong : ChangeSpec := { name := "fnNextKeyWalk", fn := fun _ => fun
  | [d] => { results := [.lit (.bool false)], args := [d] }
  | _ => none }
def FnNextKeyWalkWrongFalsely : Prop := fnNextKeyWalkRow.holds Try.pinned (OpenSpec.ofChange fnNextKeyWalkWrong)

/-- 'laws.FnNextKeyRank': WHATEVER THE INPUT: true; the input reads as it did. -/
def fnNextKeyRankSpec : ChangeSpec := { name := "fnNextKeyRank", fn := fun _ => fun
  | [d] => { results := [.lit (.bool true)], args := [d] }
  | _ => none }
def fnNextKeyRankRow : OpenClaim := { program := "ytanckppjkbfbfaa", sum := "1380dd198b94fce9bffb1c2e65ca90f6a920b9e4ea98613ab386e09efb2dd8cd", func := "loop.example/pagetree/laws.FnNextKeyRank", spec := "fnNextKeyRank", unfollowed := true, recurses := true, apart := false }
def FnNextKeyRankSaid : Prop := fnNextKeyRankRow.holds Try.pinned (OpenSpec.ofChange fnNextKeyRankSpec)

/-- ITS FALSE NEIGHBOUR: 'it returns false'. Refute it at one input. -/
def fnNextKeyRankWrong : ChangeSpec := { name := "fnNextKeyRank", fn := fun _ => fun
  | [d] => { results := [.lit (.bool false)], args := [d] }
  | _ => none }
def FnNextKeyRankWrongFalsely : Prop := fnNextKeyRankRow.holds Try.pinned (OpenSpec.ofChange fnNextKeyRankWrong)

/- THE SECOND FORM. 'bulk': how many values and letters a reading holds, each counted each time it is reached (what is shared counts as often as it is met; a slice's spare places count too). A statement '..UptoSaid' is the law's where the arguments, and the package variables that the reading takes, are together of bulk at most 1048576: NARROWER than '..Said'. Prove '..Said' where nothing that the law and all that it calls make is longer than what came in: it says more and counts as full. Else prove '..UptoSaid'. A law counts once. -/
mutual
def uptoBulk {H : Type} : DataW H → Nat
  | .lit (.string bytes) => bytes.length + 1
  | .lit _ => 1
  | .nil => 1
  | .ptr d => uptoBulk d + 1
  | .slice elems spare => uptoBulkAll elems + uptoBulkAll spare + 1
  | .agg parts => uptoBulkAll parts + 1
  | .iface _ d => uptoBulk d + 1
  | .map entries => uptoBulkEntries entries + 1
  | .held _ => 1
def uptoBulkAll {H : Type} : List (DataW H) → Nat
  | [] => 0
  | d :: r => uptoBulk d + uptoBulkAll r
def uptoBulkEntries {H : Type} : List (Lit × DataW H) → Nat
  | [] => 0
  | x :: r => uptoBulkEntry x + uptoBulkEntries r
def uptoBulkEntry {H : Type} : Lit × DataW H → Nat
  | (.string bytes, d) => bytes.length + uptoBulk d + 1
  | (_, d) => uptoBulk d + 1
 end
def uptoSmall : (H : Type) → List (DataW H) → Bool := fun _ ds => decide (uptoBulkAll ds ≤ 1048576)
def OpenSpec.upto (s : _root_.Go.ChangeSpec) : _root_.Go.OpenSpec := { _root_.Go.OpenSpec.ofChange s with cond := some uptoSmall }

/-- 'laws.FnPathTo', WHERE WHAT IT READS IS OF BULK AT MOST 1048576: true; the input reads as it did. -/
def fnPathToUptoRow : OpenClaim := { program := "ytanckppjkbfbfaa", sum := "1380dd198b94fce9bffb1c2e65ca90f6a920b9e4ea98613ab386e09efb2dd8cd", func := "loop.example/pagetree/laws.FnPathTo", spec := "fnPathTo", unfollowed := true, recurses := true, apart := false, narrowed := true }
def FnPathToUptoSaid : Prop := fnPathToUptoRow.holds Try.pinned (OpenSpec.upto fnPathToSpec)

/-- 'laws.FnPathToOrder', WHERE WHAT IT READS IS OF BULK AT MOST 1048576: true; the input reads as it did. -/
def fnPathToOrderUptoRow : OpenClaim := { program := "ytanckppjkbfbfaa", sum := "1380dd198b94fce9bffb1c2e65ca90f6a920b9e4ea98613ab386e09efb2dd8cd", func := "loop.example/pagetree/laws.FnPathToOrder", spec := "fnPathToOrder", unfollowed := true, recurses := true, apart := false, narrowed := true }
def FnPathToOrderUptoSaid : Prop := fnPathToOrderUptoRow.holds Try.pinned (OpenSpec.upto fnPathToOrderSpec)

/-- 'laws.FnLeavesOfFirst', WHERE WHAT IT READS IS OF BULK AT MOST 1048576: true; the input reads as it did. -/
def fnLeavesOfFirstUptoRow : OpenClaim := { program := "ytanckppjkbfbfaa", sum := "1380dd198b94fce9bffb1c2e65ca90f6a920b9e4ea98613ab386e09efb2dd8cd", func := "loop.example/pagetree/laws.FnLeavesOfFirst", spec := "fnLeavesOfFirst", unfollowed := true, recurses := true, apart := false, narrowed := true }
def FnLeavesOfFirstUptoSaid : Prop := fnLeavesOfFirstUptoRow.holds Try.pinned (OpenSpec.upto fnLeavesOfFirstSpec)

/-- 'laws.FnRankOf', WHERE WHAT IT READS IS OF BULK AT MOST 1048576: true; the input reads as it did. -/
def fnRankOfUptoRow : OpenClaim := { program := "ytanckppjkbfbfaa", sum := "1380dd198b94fce9bffb1c2e65ca90f6a920b9e4ea98613ab386e09efb2dd8cd", func := "loop.example/pagetree/laws.FnRankOf", spec := "fnRankOf", unfollowed := true, recurses := true, apart := false, narrowed := true }
def FnRankOfUptoSaid : Prop := fnRankOfUptoRow.holds Try.pinned (OpenSpec.upto fnRankOfSpec)

/-- 'laws.FnRankOfAll', WHERE WHAT IT READS IS OF BULK AT MOST 1048576: true; the input reads as it did. -/
def fnRankOfAllUptoRow : OpenClaim := { program := "ytanckppjkbfbfaa", sum := "1380dd198b94fce9bffb1c2e65ca90f6a920b9e4ea98613ab386e09efb2dd8cd", func := "loop.example/pagetree/laws.FnRankOfAll", spec := "fnRankOfAll", unfollowed := true, recurses := true, apart := false, narrowed := true }
def FnRankOfAllUptoSaid : Prop := fnRankOfAllUptoRow.holds Try.pinned (OpenSpec.upto fnRankOfAllSpec)

/-- 'laws.FnScanKeys', WHERE WHAT IT READS IS OF BULK AT MOST 1048576: true; the input reads as it did. -/
def fnScanKeysUptoRow : OpenClaim := { program := "ytanckppjkbfbfaa", sum := "1380dd198b94fce9bffb1c2e65ca90f6a920b9e4ea98613ab386e09efb2dd8cd", func := "loop.example/pagetree/laws.FnScanKeys", spec := "fnScanKeys", recurses := true, apart := false, narrowed := true }
def FnScanKeysUptoSaid : Prop := fnScanKeysUptoRow.holds Try.pinned (OpenSpec.upto fnScanKeysSpec)

/-- 'laws.FnScanKeysMany', WHERE WHAT IT READS IS OF BULK AT MOST 1048576: true; the input reads as it did. -/
def fnScanKeysManyUptoRow : OpenClaim := { program := "ytanckppjkbfbfaa", sum := "1380dd198b94fce9bffb1c2e65ca90f6a920b9e4ea98613ab386e09efb2dd8cd", func := "loop.example/pagetree/laws.FnScanKeysMany", spec := "fnScanKeysMany", recurses := true, apart := false, narrowed := true }
def FnScanKeysManyUptoSaid : Prop := fnScanKeysManyUptoRow.holds Try.pinned (OpenSpec.upto fnScanKeysManySpec)

/-- 'laws.FnScanKeysAll', WHERE WHAT IT READS IS OF BULK AT MOST 1048576: true; the input reads as it did. -/
def fnScanKeysAllUptoRow : OpenClaim := { program := "ytanckppjkbfbfaa", sum := "1380dd198b94fce9bffb1c2e65ca90f6a920b9e4ea98613ab386e09efb2dd8cd", func := "loop.example/pagetree/laws.FnScanKeysAll", spec := "fnScanKeysAll", recurses := true, apart := false, narrowed := true }
def FnScanKeysAllUptoSaid : Prop := fnScanKeysAllUptoRow.holds Try.pinned (OpenSpec.upto fnScanKeysAllSpec)

/-- 'laws.FnNextKey', WHERE WHAT IT READS IS OF BULK AT MOST 1048576: true; the input reads as it did. -/
def fnNextKeyUptoRow : OpenClaim := { program := "ytanckppjkbfbfaa", sum := "1380dd198b94fce9bffb1c2e65ca90f6a920b9e4ea98613ab386e09efb2dd8cd", func := "loop.example/pagetree/laws.FnNextKey", spec := "fnNextKey", recurses := true, apart := false, narrowed := true }
def FnNextKeyUptoSaid : Prop := fnNextKeyUptoRow.holds Try.pinned (OpenSpec.upto fnNextKeySpec)

/-- 'laws.FnNextKeyWalk', WHERE WHAT IT READS IS OF BULK AT MOST 1048576: true; the input reads as it did. -/
def fnNextKeyWalkUptoRow : OpenClaim := { program := "ytanckppjkbfbfaa", sum := "1380dd198b94fce9bffb1c2e65ca90f6a920b9e4ea98613ab386e09efb2dd8cd", func := "loop.example/pagetree/laws.FnNextKeyWalk", spec := "fnNextKeyWalk", recurses := true, apart := false, narrowed := true }
def FnNextKeyWalkUptoSaid : Prop := fnNextKeyWalkUptoRow.holds Try.pinned (OpenSpec.upto fnNextKeyWalkSpec)

/-- 'laws.FnNextKeyRank', WHERE WHAT IT READS IS OF BULK AT MOST 1048576: true; the input reads as it did. -/
def fnNextKeyRankUptoRow : OpenClaim := { program := "ytanckppjkbfbfaa", sum := "1380dd198b94fce9bffb1c2e65ca90f6a920b9e4ea98613ab386e09efb2dd8cd", func := "loop.example/pagetree/laws.FnNextKeyRank", spec := "fnNextKeyRank", unfollowed := true, recurses := true, apart := false, narrowed := true }
def FnNextKeyRankUptoSaid : Prop := fnNextKeyRankUptoRow.holds Try.pinned (OpenSpec.upto fnNextKeyRankSpec)

end Rows
end Go.Proofs.Ytanckppjkbfbfaa
