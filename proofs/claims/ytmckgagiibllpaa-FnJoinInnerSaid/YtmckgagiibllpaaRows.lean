/-
  No cell of these rows narrows 'for every input' (looked for: loops, veiled, ifaces, maps, wideKeys, modest, calm, conditions, laid).
  DERIVED. THE GIVEN ROWS OF THIS SEAT. 12 by the template 'for every input the law returns true; each argument reads behind the call as it read before'; 0 by the template 'total and deterministic' (their statements: YtmckgagiibllpaaTotals.lean).
  GIVEN WITH THE SEED: the statements are not yours to turn. If you find one false, say at which input.
  Laid BY PROGRAM, IN A SANDBOX (cutbox-rows.mjs): the forced cells as the released guide's own fill.sh prints them over the translation 5d319e5e1343e9c8… (all of the seat's roots in one cut). By AI agents, Wed Nov 11 2026. No macro, syntax, notation, axiom, sorry.
-/
import Derived.Test.YtmckgagiibllpaaChecked
import GoSem.Claim
import GoSem.ClaimJoined
import GoSem.ClaimMapViews
import Derived.JoinedTies
import Derived.KernelRfl
namespace Go.Proofs.Ytmckgagiibllpaa
/- THE CELL 'sum', in the pinned program and in every row, IS THE sha256 OF THE DUMP (.gsa) THAT YtmckgagiibllpaaProg.lean LOADS. Nothing in Lean hashes anything: it is a label: what it is worth is what the hold of that sum in a sandbox is worth. -/
noncomputable def Try.pinned : Pinned := { name := "ytmckgagiibllpaa", sum := "5d319e5e1343e9c8e272a582ae684f79c45f8ae34a450bc94d0c09bf09d0ebbb", checked := Try.checked }
namespace Rows
def none {H : Type} : Left H := { results := [], args := [] }

/-- 'laws.FnRouteKeyEnds': WHATEVER THE INPUT: true; the input reads as it did. -/
def fnRouteKeyEndsSpec : ChangeSpec := { name := "fnRouteKeyEnds", fn := fun _ => fun
  | [d] => { results := [.lit (.bool true)], args := [d] }
  | _ => none }
def fnRouteKeyEndsRow : OpenClaim := { program := "ytmckgagiibllpaa", sum := "5d319e5e1343e9c8e272a582ae684f79c45f8ae34a450bc94d0c09bf09d0ebbb", func := "loop.example/pagetree/laws.FnRouteKeyEnds", spec := "fnRouteKeyEnds", unfollowed := true, recurses := true, apart := false }
def FnRouteKeyEndsSaid : Prop := fnRouteKeyEndsRow.holds Try.pinned (OpenSpec.ofChange fnRouteKeyEndsSpec)

/-- ITS FALSE NEIGHBOUR: 'it returns false'. Refute it at one input. -/
def fnRouteKeyEndsWrong : ChangeSpec := { name := "fnRouteKeyEnds", fn := fun _ => fun
  | [d] => { results := [.lit (.bool false)], args := [d] }
  | _ => none }
def FnRouteKeyEndsWrongFalsely : Prop := fnRouteKeyEndsRow.holds Try.pinned (OpenSpec.ofChange fnRouteKeyEndsWrong)

/-- 'laws.FnRemoveKeyOrder': WHATEVER THE INPUT: true; the input reads as it did. -/
def fnRemoveKeyOrderSpec : ChangeSpec := { name := "fnRemoveKeyOrder", fn := fun _ => fun
  | [d] => { results := [.lit (.bool true)], args := [d] }
  | _ => none }
def fnRemoveKeyOrderRow : OpenClaim := { program := "ytmckgagiibllpaa", sum := "5d319e5e1343e9c8e272a582ae684f79c45f8ae34a450bc94d0c09bf09d0ebbb", func := "loop.example/pagetree/laws.FnRemoveKeyOrder", spec := "fnRemoveKeyOrder", unfollowed := true, recurses := true, apart := false }
def FnRemoveKeyOrderSaid : Prop := fnRemoveKeyOrderRow.holds Try.pinned (OpenSpec.ofChange fnRemoveKeyOrderSpec)

/-- ITS FALSE NEIGHBOUR: 'it returns false'. Refute it at one input. -/
def fnRemoveKeyOrderWrong : ChangeSpec := { name := "fnRemoveKeyOrder", fn := fun _ => fun
  | [d] => { results := [.lit (.bool false)], args := [d] }
  | _ => none }
def FnRemoveKeyOrderWrongFalsely : Prop := fnRemoveKeyOrderRow.holds Try.pinned (OpenSpec.ofChange fnRemoveKeyOrderWrong)

/-- 'laws.FnRouteKey': WHATEVER THE INPUT: true; the input reads as it did. -/
def fnRouteKeySpec : ChangeSpec := { name := "fnRouteKey", fn := fun _ => fun
  | [d] => { results := [.lit (.bool true)], args := [d] }
  | _ => none }
def fnRouteKeyRow : OpenClaim := { program := "ytmckgagiibllpaa", sum := "5d319e5e1343e9c8e272a582ae684f79c45f8ae34a450bc94d0c09bf09d0ebbb", func := "loop.example/pagetree/laws.FnRouteKey", spec := "fnRouteKey", unfollowed := true, recurses := true, apart := false }
def FnRouteKeySaid : Prop := fnRouteKeyRow.holds Try.pinned (OpenSpec.ofChange fnRouteKeySpec)

/-- ITS FALSE NEIGHBOUR: 'it returns false'. Refute it at one input. -/
def fnRouteKeyWrong : ChangeSpec := { name := "fnRouteKey", fn := fun _ => fun
  | [d] => { results := [.lit (.bool false)], args := [d] }
  | _ => none }
def FnRouteKeyWrongFalsely : Prop := fnRouteKeyRow.holds Try.pinned (OpenSpec.ofChange fnRouteKeyWrong)

/-- 'laws.FnRouteKeyOrder': WHATEVER THE INPUT: true; the input reads as it did. -/
def fnRouteKeyOrderSpec : ChangeSpec := { name := "fnRouteKeyOrder", fn := fun _ => fun
  | [d] => { results := [.lit (.bool true)], args := [d] }
  | _ => none }
def fnRouteKeyOrderRow : OpenClaim := { program := "ytmckgagiibllpaa", sum := "5d319e5e1343e9c8e272a582ae684f79c45f8ae34a450bc94d0c09bf09d0ebbb", func := "loop.example/pagetree/laws.FnRouteKeyOrder", spec := "fnRouteKeyOrder", unfollowed := true, recurses := true, apart := false }
def FnRouteKeyOrderSaid : Prop := fnRouteKeyOrderRow.holds Try.pinned (OpenSpec.ofChange fnRouteKeyOrderSpec)

/-- ITS FALSE NEIGHBOUR: 'it returns false'. Refute it at one input. -/
def fnRouteKeyOrderWrong : ChangeSpec := { name := "fnRouteKeyOrder", fn := fun _ => fun
  | [d] => { results := [.lit (.bool false)], args := [d] }
  | _ => none }
def FnRouteKeyOrderWrongFalsely : Prop := fnRouteKeyOrderRow.holds Try.pinned (OpenSpec.ofChange fnRouteKeyOrderWrong)

/-- 'laws.FnCutKid': WHATEVER THE INPUT: true; the input reads as it did. -/
def fnCutKidSpec : ChangeSpec := { name := "fnCutKid", fn := fun _ => fun
  | [d] => { results := [.lit (.bool true)], args := [d] }
  | _ => none }
def fnCutKidRow : OpenClaim := { program := "ytmckgagiibllpaa", sum := "5d319e5e1343e9c8e272a582ae684f79c45f8ae34a450bc94d0c09bf09d0ebbb", func := "loop.example/pagetree/laws.FnCutKid", spec := "fnCutKid", apart := false }
def FnCutKidSaid : Prop := fnCutKidRow.holds Try.pinned (OpenSpec.ofChange fnCutKidSpec)

/-- ITS FALSE NEIGHBOUR: 'it returns false'. Refute it at one input. -/
def fnCutKidWrong : ChangeSpec := { name := "fnCutKid", fn := fun _ => fun
  | [d] => { results := [.lit (.bool false)], args := [d] }
  | _ => none }
def FnCutKidWrongFalsely : Prop := fnCutKidRow.holds Try.pinned (OpenSpec.ofChange fnCutKidWrong)

/-- 'laws.FnJoinRowsBack': WHATEVER THE INPUT: true; the input reads as it did. -/
def fnJoinRowsBackSpec : ChangeSpec := { name := "fnJoinRowsBack", fn := fun _ => fun
  | [d] => { results := [.lit (.bool true)], args := [d] }
  | _ => none }
def fnJoinRowsBackRow : OpenClaim := { program := "ytmckgagiibllpaa", sum := "5d319e5e1343e9c8e272a582ae684f79c45f8ae34a450bc94d0c09bf09d0ebbb", func := "loop.example/pagetree/laws.FnJoinRowsBack", spec := "fnJoinRowsBack", apart := false }
def FnJoinRowsBackSaid : Prop := fnJoinRowsBackRow.holds Try.pinned (OpenSpec.ofChange fnJoinRowsBackSpec)

/-- ITS FALSE NEIGHBOUR: 'it returns false'. Refute it at one input. -/
def fnJoinRowsBackWrong : ChangeSpec := { name := "fnJoinRowsBack", fn := fun _ => fun
  | [d] => { results := [.lit (.bool false)], args := [d] }
  | _ => none }
def FnJoinRowsBackWrongFalsely : Prop := fnJoinRowsBackRow.holds Try.pinned (OpenSpec.ofChange fnJoinRowsBackWrong)

/-- 'laws.FnJoinRows': WHATEVER THE INPUT: true; the input reads as it did. -/
def fnJoinRowsSpec : ChangeSpec := { name := "fnJoinRows", fn := fun _ => fun
  | [d] => { results := [.lit (.bool true)], args := [d] }
  | _ => none }
def fnJoinRowsRow : OpenClaim := { program := "ytmckgagiibllpaa", sum := "5d319e5e1343e9c8e272a582ae684f79c45f8ae34a450bc94d0c09bf09d0ebbb", func := "loop.example/pagetree/laws.FnJoinRows", spec := "fnJoinRows", apart := false }
def FnJoinRowsSaid : Prop := fnJoinRowsRow.holds Try.pinned (OpenSpec.ofChange fnJoinRowsSpec)

/-- ITS FALSE NEIGHBOUR: 'it returns false'. Refute it at one input. -/
def fnJoinRowsWrong : ChangeSpec := { name := "fnJoinRows", fn := fun _ => fun
  | [d] => { results := [.lit (.bool false)], args := [d] }
  | _ => none }
def FnJoinRowsWrongFalsely : Prop := fnJoinRowsRow.holds Try.pinned (OpenSpec.ofChange fnJoinRowsWrong)

/-- 'laws.FnSplitRow': WHATEVER THE INPUT: true; the input reads as it did. -/
def fnSplitRowSpec : ChangeSpec := { name := "fnSplitRow", fn := fun _ => fun
  | [d] => { results := [.lit (.bool true)], args := [d] }
  | _ => none }
def fnSplitRowRow : OpenClaim := { program := "ytmckgagiibllpaa", sum := "5d319e5e1343e9c8e272a582ae684f79c45f8ae34a450bc94d0c09bf09d0ebbb", func := "loop.example/pagetree/laws.FnSplitRow", spec := "fnSplitRow", apart := false }
def FnSplitRowSaid : Prop := fnSplitRowRow.holds Try.pinned (OpenSpec.ofChange fnSplitRowSpec)

/-- ITS FALSE NEIGHBOUR: 'it returns false'. Refute it at one input. -/
def fnSplitRowWrong : ChangeSpec := { name := "fnSplitRow", fn := fun _ => fun
  | [d] => { results := [.lit (.bool false)], args := [d] }
  | _ => none }
def FnSplitRowWrongFalsely : Prop := fnSplitRowRow.holds Try.pinned (OpenSpec.ofChange fnSplitRowWrong)

/-- 'laws.FnJoinInner': WHATEVER THE INPUT: true; the input reads as it did. -/
def fnJoinInnerSpec : ChangeSpec := { name := "fnJoinInner", fn := fun _ => fun
  | [d] => { results := [.lit (.bool true)], args := [d] }
  | _ => none }
def fnJoinInnerRow : OpenClaim := { program := "ytmckgagiibllpaa", sum := "5d319e5e1343e9c8e272a582ae684f79c45f8ae34a450bc94d0c09bf09d0ebbb", func := "loop.example/pagetree/laws.FnJoinInner", spec := "fnJoinInner", apart := false }
def FnJoinInnerSaid : Prop := fnJoinInnerRow.holds Try.pinned (OpenSpec.ofChange fnJoinInnerSpec)

/-- ITS FALSE NEIGHBOUR: 'it returns false'. Refute it at one input. -/
def fnJoinInnerWrong : ChangeSpec := { name := "fnJoinInner", fn := fun _ => fun
  | [d] => { results := [.lit (.bool false)], args := [d] }
  | _ => none }
def FnJoinInnerWrongFalsely : Prop := fnJoinInnerRow.holds Try.pinned (OpenSpec.ofChange fnJoinInnerWrong)

/-- 'laws.FnValueIn': WHATEVER THE INPUT: true; the input reads as it did. -/
def fnValueInSpec : ChangeSpec := { name := "fnValueIn", fn := fun _ => fun
  | [d] => { results := [.lit (.bool true)], args := [d] }
  | _ => none }
def fnValueInRow : OpenClaim := { program := "ytmckgagiibllpaa", sum := "5d319e5e1343e9c8e272a582ae684f79c45f8ae34a450bc94d0c09bf09d0ebbb", func := "loop.example/pagetree/laws.FnValueIn", spec := "fnValueIn", unfollowed := true, recurses := true, apart := false }
def FnValueInSaid : Prop := fnValueInRow.holds Try.pinned (OpenSpec.ofChange fnValueInSpec)

/-- ITS FALSE NEIGHBOUR: 'it returns false'. Refute it at one input. -/
def fnValueInWrong : ChangeSpec := { name := "fnValueIn", fn := fun _ => fun
  | [d] => { results := [.lit (.bool false)], args := [d] }
  | _ => none }
def FnValueInWrongFalsely : Prop := fnValueInRow.holds Try.pinned (OpenSpec.ofChange fnValueInWrong)

/-- 'laws.FnSplitInnerRoute': WHATEVER THE INPUT: true; the input reads as it did. -/
def fnSplitInnerRouteSpec : ChangeSpec := { name := "fnSplitInnerRoute", fn := fun _ => fun
  | [d] => { results := [.lit (.bool true)], args := [d] }
  | _ => none }
def fnSplitInnerRouteRow : OpenClaim := { program := "ytmckgagiibllpaa", sum := "5d319e5e1343e9c8e272a582ae684f79c45f8ae34a450bc94d0c09bf09d0ebbb", func := "loop.example/pagetree/laws.FnSplitInnerRoute", spec := "fnSplitInnerRoute", unfollowed := true, recurses := true, apart := false }
def FnSplitInnerRouteSaid : Prop := fnSplitInnerRouteRow.holds Try.pinned (OpenSpec.ofChange fnSplitInnerRouteSpec)

/-- ITS FALSE NEIGHBOUR: 'it returns false'. Refute it at one input. -/
def fnSplitInnerRouteWrong : ChangeSpec := { name := "fnSplitInnerRoute", fn := fun _ => fun
  | [d] => { results := [.lit (.bool false)], args := [d] }
  | _ => none }
def FnSplitInnerRouteWrongFalsely : Prop := fnSplitInnerRouteRow.holds Try.pinned (OpenSpec.ofChange fnSplitInnerRouteWrong)

/-- 'laws.FnCutKidRoute': WHATEVER THE INPUT: true; the input reads as it did. -/
def fnCutKidRouteSpec : ChangeSpec := { name := "fnCutKidRoute", fn := fun _ => fun
  | [d] => { results := [.lit (.bool true)], args := [d] }
  | _ => none }
def fnCutKidRouteRow : OpenClaim := { program := "ytmckgagiibllpaa", sum := "5d319e5e1343e9c8e272a582ae684f79c45f8ae34a450bc94d0c09bf09d0ebbb", func := "loop.example/pagetree/laws.FnCutKidRoute", spec := "fnCutKidRoute", unfollowed := true, recurses := true, apart := false }
def FnCutKidRouteSaid : Prop := fnCutKidRouteRow.holds Try.pinned (OpenSpec.ofChange fnCutKidRouteSpec)

/-- ITS FALSE NEIGHBOUR: 'it returns false'. Refute it at one input. -/
def fnCutKidRouteWrong : ChangeSpec := { name := "fnCutKidRoute", fn := fun _ => fun
  | [d] => { results := [.lit (.bool false)], args := [d] }
  | _ => none }
def FnCutKidRouteWrongFalsely : Prop := fnCutKidRouteRow.holds Try.pinned (OpenSpec.ofChange fnCutKidRouteWrong)

/- THE SECOND FORM. 'bulk': how many values and letters a reading holds, each counted each time it is reached (what is shared counts as often as it is met; a slice's spare places count too). A statement '..UptoSaid' is the law's where the arguments, and the package variables that the reading takes, are together of bulk at most 1048576: NARROWER than '..Said'. Prove '..Said' where nothing that the law and all that it calls make is longer than what came in: it says more and counts as full. Else prove '..UptoSaid'. A law counts once. -/
mutual
def uptoBulk {H : Type} : DataW H → Nat
  | .lit (.string bytes) => bytes.length + 1
  | .lit _ => 1
  | .nil => 1
  | .ptr d => uptoBulk d + 1
  | .slice elems spare => uptoBulkAll elems + uptoBulkAll spare + 1
  | .agg parts => uptoBulkAll parts + 1
  | .iface _ d => uptoBulk d + 1
  | .map entries => uptoBulkEntries entries + 1
  | .held _ => 1
def uptoBulkAll {H : Type} : List (DataW H) → Nat
  | [] => 0
  | d :: r => uptoBulk d + uptoBulkAll r
def uptoBulkEntries {H : Type} : List (Lit × DataW H) → Nat
  | [] => 0
  | x :: r => uptoBulkEntry x + uptoBulkEntries r
def uptoBulkEntry {H : Type} : Lit × DataW H → Nat
  | (.string bytes, d) => bytes.length + uptoBulk d + 1
  | (_, d) => uptoBulk d + 1
 end
def uptoSmall : (H : Type) → List (DataW H) → Bool := fun _ ds => decide (uptoBulkAll ds ≤ 1048576)
def OpenSpec.upto (s : _root_.Go.ChangeSpec) : _root_.Go.OpenSpec := { _root_.Go.OpenSpec.ofChange s with cond := some uptoSmall }

/-- 'laws.FnRouteKeyEnds', WHERE WHAT IT READS IS OF BULK AT MOST 1048576: true; the input reads as it did. -/
def fnRouteKeyEndsUptoRow : OpenClaim := { program := "ytmckgagiibllpaa", sum := "5d319e5e1343e9c8e272a582ae684f79c45f8ae34a450bc94d0c09bf09d0ebbb", func := "loop.example/pagetree/laws.FnRouteKeyEnds", spec := "fnRouteKeyEnds", unfollowed := true, recurses := true, apart := false, narrowed := true }
def FnRouteKeyEndsUptoSaid : Prop := fnRouteKeyEndsUptoRow.holds Try.pinned (OpenSpec.upto fnRouteKeyEndsSpec)

/-- 'laws.FnRemoveKeyOrder', WHERE WHAT IT READS IS OF BULK AT MOST 1048576: true; the input reads as it did. -/
def fnRemoveKeyOrderUptoRow : OpenClaim := { program := "ytmckgagiibllpaa", sum := "5d319e5e1343e9c8e272a582ae684f79c45f8ae34a450bc94d0c09bf09d0ebbb", func := "loop.example/pagetree/laws.FnRemoveKeyOrder", spec := "fnRemoveKeyOrder", unfollowed := true, recurses := true, apart := false, narrowed := true }
def FnRemoveKeyOrderUptoSaid : Prop := fnRemoveKeyOrderUptoRow.holds Try.pinned (OpenSpec.upto fnRemoveKeyOrderSpec)

/-- 'laws.FnRouteKey', WHERE WHAT IT READS IS OF BULK AT MOST 1048576: true; the input reads as it did. -/
def fnRouteKeyUptoRow : OpenClaim := { program := "ytmckgagiibllpaa", sum := "5d319e5e1343e9c8e272a582ae684f79c45f8ae34a450bc94d0c09bf09d0ebbb", func := "loop.example/pagetree/laws.FnRouteKey", spec := "fnRouteKey", unfollowed := true, recurses := true, apart := false, narrowed := true }
def FnRouteKeyUptoSaid : Prop := fnRouteKeyUptoRow.holds Try.pinned (OpenSpec.upto fnRouteKeySpec)

/-- 'laws.FnRouteKeyOrder', WHERE WHAT IT READS IS OF BULK AT MOST 1048576: true; the input reads as it did. -/
def fnRouteKeyOrderUptoRow : OpenClaim := { program := "ytmckgagiibllpaa", sum := "5d319e5e1343e9c8e272a582ae684f79c45f8ae34a450bc94d0c09bf09d0ebbb", func := "loop.example/pagetree/laws.FnRouteKeyOrder", spec := "fnRouteKeyOrder", unfollowed := true, recurses := true, apart := false, narrowed := true }
def FnRouteKeyOrderUptoSaid : Prop := fnRouteKeyOrderUptoRow.holds Try.pinned (OpenSpec.upto fnRouteKeyOrderSpec)

/-- 'laws.FnCutKid', WHERE WHAT IT READS IS OF BULK AT MOST 1048576: true; the input reads as it did. -/
def fnCutKidUptoRow : OpenClaim := { program := "ytmckgagiibllpaa", sum := "5d319e5e1343e9c8e272a582ae684f79c45f8ae34a450bc94d0c09bf09d0ebbb", func := "loop.example/pagetree/laws.FnCutKid", spec := "fnCutKid", apart := false, narrowed := true }
def FnCutKidUptoSaid : Prop := fnCutKidUptoRow.holds Try.pinned (OpenSpec.upto fnCutKidSpec)

/-- 'laws.FnJoinRowsBack', WHERE WHAT IT READS IS OF BULK AT MOST 1048576: true; the input reads as it did. -/
def fnJoinRowsBackUptoRow : OpenClaim := { program := "ytmckgagiibllpaa", sum := "5d319e5e1343e9c8e272a582ae684f79c45f8ae34a450bc94d0c09bf09d0ebbb", func := "loop.example/pagetree/laws.FnJoinRowsBack", spec := "fnJoinRowsBack", apart := false, narrowed := true }
def FnJoinRowsBackUptoSaid : Prop := fnJoinRowsBackUptoRow.holds Try.pinned (OpenSpec.upto fnJoinRowsBackSpec)

/-- 'laws.FnJoinRows', WHERE WHAT IT READS IS OF BULK AT MOST 1048576: true; the input reads as it did. -/
def fnJoinRowsUptoRow : OpenClaim := { program := "ytmckgagiibllpaa", sum := "5d319e5e1343e9c8e272a582ae684f79c45f8ae34a450bc94d0c09bf09d0ebbb", func := "loop.example/pagetree/laws.FnJoinRows", spec := "fnJoinRows", apart := false, narrowed := true }
def FnJoinRowsUptoSaid : Prop := fnJoinRowsUptoRow.holds Try.pinned (OpenSpec.upto fnJoinRowsSpec)

/-- 'laws.FnSplitRow', WHERE WHAT IT READS IS OF BULK AT MOST 1048576: true; the input reads as it did. -/
def fnSplitRowUptoRow : OpenClaim := { program := "ytmckgagiibllpaa", sum := "5d319e5e1343e9c8e272a582ae684f79c45f8ae34a450bc94d0c09bf09d0ebbb", func := "loop.example/pagetree/laws.FnSplitRow", spec := "fnSplitRow", apart := false, narrowed := true }
def FnSplitRowUptoSaid : Prop := fnSplitRowUptoRow.holds Try.pinned (OpenSpec.upto fnSplitRowSpec)

/-- 'laws.FnJoinInner', WHERE WHAT IT READS IS OF BULK AT MOST 1048576: true; the input reads as it did. -/
def fnJoinInnerUptoRow : OpenClaim := { program := "ytmckgagiibllpaa", sum := "5d319e5e1343e9c8e272a582ae684f79c45f8ae34a450bc94d0c09bf09d0ebbb", func := "loop.example/pagetree/laws.FnJoinInner", spec := "fnJoinInner", apart := false, narrowed := true }
def FnJoinInnerUptoSaid : Prop := fnJoinInnerUptoRow.holds Try.pinned (OpenSpec.upto fnJoinInnerSpec)

/-- 'laws.FnValueIn', WHERE WHAT IT READS IS OF BULK AT MOST 1048576: true; the input reads as it did. -/
def fnValueInUptoRow : OpenClaim := { program := "ytmckgagiibllpaa", sum := "5d319e5e1343e9c8e272a582ae684f79c45f8ae34a450bc94d0c09bf09d0ebbb", func := "loop.example/pagetree/laws.FnValueIn", spec := "fnValueIn", unfollowed := true, recurses := true, apart := false, narrowed := true }
def FnValueInUptoSaid : Prop := fnValueInUptoRow.holds Try.pinned (OpenSpec.upto fnValueInSpec)

/-- 'laws.FnSplitInnerRoute', WHERE WHAT IT READS IS OF BULK AT MOST 1048576: true; the input reads as it did. -/
def fnSplitInnerRouteUptoRow : OpenClaim := { program := "ytmckgagiibllpaa", sum := "5d319e5e1343e9c8e272a582ae684f79c45f8ae34a450bc94d0c09bf09d0ebbb", func := "loop.example/pagetree/laws.FnSplitInnerRoute", spec := "fnSplitInnerRoute", unfollowed := true, recurses := true, apart := false, narrowed := true }
def FnSplitInnerRouteUptoSaid : Prop := fnSplitInnerRouteUptoRow.holds Try.pinned (OpenSpec.upto fnSplitInnerRouteSpec)

/-- 'laws.FnCutKidRoute', WHERE WHAT IT READS IS OF BULK AT MOST 1048576: true; the input reads as it did. -/
def fnCutKidRouteUptoRow : OpenClaim := { program := "ytmckgagiibllpaa", sum := "5d319e5e1343e9c8e272a582ae684f79c45f8ae34a450bc94d0c09bf09d0ebbb", func := "loop.example/pagetree/laws.FnCutKidRoute", spec := "fnCutKidRoute", unfollowed := true, recurses := true, apart := false, narrowed := true }
def FnCutKidRouteUptoSaid : Prop := fnCutKidRouteUptoRow.holds Try.pinned (OpenSpec.upto fnCutKidRouteSpec)

end Rows
end Go.Proofs.Ytmckgagiibllpaa
