/-
  No cell of these rows narrows 'for every input' (looked for: loops, veiled, ifaces, maps, wideKeys, modest, calm, conditions, laid).
  DERIVED. THE GIVEN ROWS OF THIS SEAT. 12 by the template 'for every input the law returns true; each argument reads behind the call as it read before'; 0 by the template 'total and deterministic' (their statements: YtjbihdcdamchnaaTotals.lean).
  GIVEN WITH THE SEED: the statements are not yours to turn. If you find one false, say at which input.
  Laid BY PROGRAM, IN A SANDBOX (cutbox-rows.mjs): the forced cells as the released guide's own fill.sh prints them over the translation 25c2a3309f0a99f1… (all of the seat's roots in one cut). By AI agents, Wed Nov 11 2026. No macro, syntax, notation, axiom, sorry.
-/
import Derived.Test.YtjbihdcdamchnaaChecked
import GoSem.Claim
import GoSem.ClaimJoined
import GoSem.ClaimMapViews
import Derived.JoinedTies
import Derived.KernelRfl
namespace Go.Proofs.Ytjbihdcdamchnaa
/- THE CELL 'sum', in the pinned program and in every row, IS THE sha256 OF THE DUMP (.gsa) THAT YtjbihdcdamchnaaProg.lean LOADS. Nothing in Lean hashes anything: it is a label: what it is worth is what the hold of that sum in a sandbox is worth. -/
noncomputable def Try.pinned : Pinned := { name := "ytjbihdcdamchnaa", sum := "25c2a3309f0a99f16aedc340ab047cfb305637900cd6dc237ea4c72695668d8c", checked := Try.checked }
namespace Rows
def none {H : Type} : Left H := { results := [], args := [] }

/-- 'laws.FnSplitInner': WHATEVER THE INPUT: true; the input reads as it did. -/
def fnSplitInnerSpec : ChangeSpec := { name := "fnSplitInner", fn := fun _ => fun
  | [d] => { results := [.lit (.bool true)], args := [d] }
  | _ => none }
def fnSplitInnerRow : OpenClaim := { program := "ytjbihdcdamchnaa", sum := "25c2a3309f0a99f16aedc340ab047cfb305637900cd6dc237ea4c72695668d8c", func := "loop.example/pagetree/laws.FnSplitInner", spec := "fnSplitInner", apart := false }
def FnSplitInnerSaid : Prop := fnSplitInnerRow.holds Try.pinned (OpenSpec.ofChange fnSplitInnerSpec)

/-- ITS FALSE NEIGHBOUR: 'it returns false'. Refute it at one input. -/
def fnSplitInnerWrong : ChangeSpec := { name := "fnSplitInner", fn := fun _ => fun
  | [d] => { results := [.lit (.bool false)], args := [d] }
  | _ => none }
def FnSplitInnerWrongFalsely : Prop := fnSplitInnerRow.holds Try.pinned (OpenSpec.ofChange fnSplitInnerWrong)

/-- 'laws.FnValueInJoin': WHATEVER THE INPUT: true; the input reads as it did. -/
def fnValueInJoinSpec : ChangeSpec := { name := "fnValueInJoin", fn := fun _ => fun
  | [d] => { results := [.lit (.bool true)], args := [d] }
  | _ => none }
def fnValueInJoinRow : OpenClaim := { program := "ytjbihdcdamchnaa", sum := "25c2a3309f0a99f16aedc340ab047cfb305637900cd6dc237ea4c72695668d8c", func := "loop.example/pagetree/laws.FnValueInJoin", spec := "fnValueInJoin", unfollowed := true, recurses := true, apart := false }
def FnValueInJoinSaid : Prop := fnValueInJoinRow.holds Try.pinned (OpenSpec.ofChange fnValueInJoinSpec)

/-- ITS FALSE NEIGHBOUR: 'it returns false'. Refute it at one input. -/
def fnValueInJoinWrong : ChangeSpec := { name := "fnValueInJoin", fn := fun _ => fun
  | [d] => { results := [.lit (.bool false)], args := [d] }
  | _ => none }
def FnValueInJoinWrongFalsely : Prop := fnValueInJoinRow.holds Try.pinned (OpenSpec.ofChange fnValueInJoinWrong)

/-- 'laws.FnJoinInnerSplit': WHATEVER THE INPUT: true; the input reads as it did. -/
def fnJoinInnerSplitSpec : ChangeSpec := { name := "fnJoinInnerSplit", fn := fun _ => fun
  | [d] => { results := [.lit (.bool true)], args := [d] }
  | _ => none }
def fnJoinInnerSplitRow : OpenClaim := { program := "ytjbihdcdamchnaa", sum := "25c2a3309f0a99f16aedc340ab047cfb305637900cd6dc237ea4c72695668d8c", func := "loop.example/pagetree/laws.FnJoinInnerSplit", spec := "fnJoinInnerSplit", apart := false }
def FnJoinInnerSplitSaid : Prop := fnJoinInnerSplitRow.holds Try.pinned (OpenSpec.ofChange fnJoinInnerSplitSpec)

/-- ITS FALSE NEIGHBOUR: 'it returns false'. Refute it at one input. -/
def fnJoinInnerSplitWrong : ChangeSpec := { name := "fnJoinInnerSplit", fn := fun _ => fun
  | [d] => { results := [.lit (.bool false)], args := [d] }
  | _ => none }
def FnJoinInnerSplitWrongFalsely : Prop := fnJoinInnerSplitRow.holds Try.pinned (OpenSpec.ofChange fnJoinInnerSplitWrong)

/-- 'laws.FnDropPairNone': WHATEVER THE INPUT: true; the input reads as it did. -/
def fnDropPairNoneSpec : ChangeSpec := { name := "fnDropPairNone", fn := fun _ => fun
  | [d] => { results := [.lit (.bool true)], args := [d] }
  | _ => none }
def fnDropPairNoneRow : OpenClaim := { program := "ytjbihdcdamchnaa", sum := "25c2a3309f0a99f16aedc340ab047cfb305637900cd6dc237ea4c72695668d8c", func := "loop.example/pagetree/laws.FnDropPairNone", spec := "fnDropPairNone", unfollowed := true, recurses := true, apart := false }
def FnDropPairNoneSaid : Prop := fnDropPairNoneRow.holds Try.pinned (OpenSpec.ofChange fnDropPairNoneSpec)

/-- ITS FALSE NEIGHBOUR: 'it returns false'. Refute it at one input. -/
def fnDropPairNoneWrong : ChangeSpec := { name := "fnDropPairNone", fn := fun _ => fun
  | [d] => { results := [.lit (.bool false)], args := [d] }
  | _ => none }
def FnDropPairNoneWrongFalsely : Prop := fnDropPairNoneRow.holds Try.pinned (OpenSpec.ofChange fnDropPairNoneWrong)

/-- 'laws.FnInsertKeyCount': WHATEVER THE INPUT: true; the input reads as it did. -/
def fnInsertKeyCountSpec : ChangeSpec := { name := "fnInsertKeyCount", fn := fun _ => fun
  | [d] => { results := [.lit (.bool true)], args := [d] }
  | _ => none }
def fnInsertKeyCountRow : OpenClaim := { program := "ytjbihdcdamchnaa", sum := "25c2a3309f0a99f16aedc340ab047cfb305637900cd6dc237ea4c72695668d8c", func := "loop.example/pagetree/laws.FnInsertKeyCount", spec := "fnInsertKeyCount", inPlace := ["slices.overlaps[int]"], unfollowed := true, recurses := true, apart := false }
def FnInsertKeyCountSaid : Prop := fnInsertKeyCountRow.holds Try.pinned (OpenSpec.ofChange fnInsertKeyCountSpec)

/-- ITS FALSE NEIGHBOUR: 'it returns false'. Refute it at one input. -/
def fnInsertKeyCountWrong : ChangeSpec := { name := "fnInsertKeyCount", fn := fun _ => fun
  | [d] => { results := [.lit (.bool false)], args := [d] }
  | _ => none }
def FnInsertKeyCountWrongFalsely : Prop := fnInsertKeyCountRow.holds Try.pinned (OpenSpec.ofChange fnInsertKeyCountWrong)

/-- 'laws.FnInsertKeyOrder': WHATEVER THE INPUT: true; the input reads as it did. -/
def fnInsertKeyOrderSpec : ChangeSpec := { name := "fnInsertKeyOrder", fn := fun _ => fun
  | [d] => { results := [.lit (.bool true)], args := [d] }
  | _ => none }
def fnInsertKeyOrderRow : OpenClaim := { program := "ytjbihdcdamchnaa", sum := "25c2a3309f0a99f16aedc340ab047cfb305637900cd6dc237ea4c72695668d8c", func := "loop.example/pagetree/laws.FnInsertKeyOrder", spec := "fnInsertKeyOrder", inPlace := ["slices.overlaps[int]"], unfollowed := true, recurses := true, apart := false }
def FnInsertKeyOrderSaid : Prop := fnInsertKeyOrderRow.holds Try.pinned (OpenSpec.ofChange fnInsertKeyOrderSpec)

/-- ITS FALSE NEIGHBOUR: 'it returns false'. Refute it at one input. -/
def fnInsertKeyOrderWrong : ChangeSpec := { name := "fnInsertKeyOrder", fn := fun _ => fun
  | [d] => { results := [.lit (.bool false)], args := [d] }
  | _ => none }
def FnInsertKeyOrderWrongFalsely : Prop := fnInsertKeyOrderRow.holds Try.pinned (OpenSpec.ofChange fnInsertKeyOrderWrong)

/-- 'laws.FnAddKidCount': WHATEVER THE INPUT: true; the input reads as it did. -/
def fnAddKidCountSpec : ChangeSpec := { name := "fnAddKidCount", fn := fun _ => fun
  | [d] => { results := [.lit (.bool true)], args := [d] }
  | _ => none }
def fnAddKidCountRow : OpenClaim := { program := "ytjbihdcdamchnaa", sum := "25c2a3309f0a99f16aedc340ab047cfb305637900cd6dc237ea4c72695668d8c", func := "loop.example/pagetree/laws.FnAddKidCount", spec := "fnAddKidCount", inPlace := ["slices.overlaps[int]"], apart := false }
def FnAddKidCountSaid : Prop := fnAddKidCountRow.holds Try.pinned (OpenSpec.ofChange fnAddKidCountSpec)

/-- ITS FALSE NEIGHBOUR: 'it returns false'. Refute it at one input. -/
def fnAddKidCountWrong : ChangeSpec := { name := "fnAddKidCount", fn := fun _ => fun
  | [d] => { results := [.lit (.bool false)], args := [d] }
  | _ => none }
def FnAddKidCountWrongFalsely : Prop := fnAddKidCountRow.holds Try.pinned (OpenSpec.ofChange fnAddKidCountWrong)

/-- 'laws.FnInsertKey': WHATEVER THE INPUT: true; the input reads as it did. -/
def fnInsertKeySpec : ChangeSpec := { name := "fnInsertKey", fn := fun _ => fun
  | [d] => { results := [.lit (.bool true)], args := [d] }
  | _ => none }
def fnInsertKeyRow : OpenClaim := { program := "ytjbihdcdamchnaa", sum := "25c2a3309f0a99f16aedc340ab047cfb305637900cd6dc237ea4c72695668d8c", func := "loop.example/pagetree/laws.FnInsertKey", spec := "fnInsertKey", inPlace := ["slices.overlaps[int]"], unfollowed := true, recurses := true, apart := false }
def FnInsertKeySaid : Prop := fnInsertKeyRow.holds Try.pinned (OpenSpec.ofChange fnInsertKeySpec)

/-- ITS FALSE NEIGHBOUR: 'it returns false'. Refute it at one input. -/
def fnInsertKeyWrong : ChangeSpec := { name := "fnInsertKey", fn := fun _ => fun
  | [d] => { results := [.lit (.bool false)], args := [d] }
  | _ => none }
def FnInsertKeyWrongFalsely : Prop := fnInsertKeyRow.holds Try.pinned (OpenSpec.ofChange fnInsertKeyWrong)

/-- 'laws.FnRemoveKey': WHATEVER THE INPUT: true; the input reads as it did. -/
def fnRemoveKeySpec : ChangeSpec := { name := "fnRemoveKey", fn := fun _ => fun
  | [d] => { results := [.lit (.bool true)], args := [d] }
  | _ => none }
def fnRemoveKeyRow : OpenClaim := { program := "ytjbihdcdamchnaa", sum := "25c2a3309f0a99f16aedc340ab047cfb305637900cd6dc237ea4c72695668d8c", func := "loop.example/pagetree/laws.FnRemoveKey", spec := "fnRemoveKey", inPlace := ["slices.overlaps[int]"], unfollowed := true, recurses := true, apart := false }
def FnRemoveKeySaid : Prop := fnRemoveKeyRow.holds Try.pinned (OpenSpec.ofChange fnRemoveKeySpec)

/-- ITS FALSE NEIGHBOUR: 'it returns false'. Refute it at one input. -/
def fnRemoveKeyWrong : ChangeSpec := { name := "fnRemoveKey", fn := fun _ => fun
  | [d] => { results := [.lit (.bool false)], args := [d] }
  | _ => none }
def FnRemoveKeyWrongFalsely : Prop := fnRemoveKeyRow.holds Try.pinned (OpenSpec.ofChange fnRemoveKeyWrong)

/-- 'laws.FnRemoveKeyNone': WHATEVER THE INPUT: true; the input reads as it did. -/
def fnRemoveKeyNoneSpec : ChangeSpec := { name := "fnRemoveKeyNone", fn := fun _ => fun
  | [d] => { results := [.lit (.bool true)], args := [d] }
  | _ => none }
def fnRemoveKeyNoneRow : OpenClaim := { program := "ytjbihdcdamchnaa", sum := "25c2a3309f0a99f16aedc340ab047cfb305637900cd6dc237ea4c72695668d8c", func := "loop.example/pagetree/laws.FnRemoveKeyNone", spec := "fnRemoveKeyNone", inPlace := ["slices.overlaps[int]"], unfollowed := true, recurses := true, apart := false }
def FnRemoveKeyNoneSaid : Prop := fnRemoveKeyNoneRow.holds Try.pinned (OpenSpec.ofChange fnRemoveKeyNoneSpec)

/-- ITS FALSE NEIGHBOUR: 'it returns false'. Refute it at one input. -/
def fnRemoveKeyNoneWrong : ChangeSpec := { name := "fnRemoveKeyNone", fn := fun _ => fun
  | [d] => { results := [.lit (.bool false)], args := [d] }
  | _ => none }
def FnRemoveKeyNoneWrongFalsely : Prop := fnRemoveKeyNoneRow.holds Try.pinned (OpenSpec.ofChange fnRemoveKeyNoneWrong)

/-- 'laws.FnAddKidRoute': WHATEVER THE INPUT: true; the input reads as it did. -/
def fnAddKidRouteSpec : ChangeSpec := { name := "fnAddKidRoute", fn := fun _ => fun
  | [d] => { results := [.lit (.bool true)], args := [d] }
  | _ => none }
def fnAddKidRouteRow : OpenClaim := { program := "ytjbihdcdamchnaa", sum := "25c2a3309f0a99f16aedc340ab047cfb305637900cd6dc237ea4c72695668d8c", func := "loop.example/pagetree/laws.FnAddKidRoute", spec := "fnAddKidRoute", inPlace := ["slices.overlaps[int]"], unfollowed := true, recurses := true, apart := false }
def FnAddKidRouteSaid : Prop := fnAddKidRouteRow.holds Try.pinned (OpenSpec.ofChange fnAddKidRouteSpec)

/-- ITS FALSE NEIGHBOUR: 'it returns false'. Refute it at one input. -/
def fnAddKidRouteWrong : ChangeSpec := { name := "fnAddKidRoute", fn := fun _ => fun
  | [d] => { results := [.lit (.bool false)], args := [d] }
  | _ => none }
def FnAddKidRouteWrongFalsely : Prop := fnAddKidRouteRow.holds Try.pinned (OpenSpec.ofChange fnAddKidRouteWrong)

/-- 'laws.FnPutPairOrder': WHATEVER THE INPUT: true; the input reads as it did. -/
def fnPutPairOrderSpec : ChangeSpec := { name := "fnPutPairOrder", fn := fun _ => fun
  | [d] => { results := [.lit (.bool true)], args := [d] }
  | _ => none }
def fnPutPairOrderRow : OpenClaim := { program := "ytjbihdcdamchnaa", sum := "25c2a3309f0a99f16aedc340ab047cfb305637900cd6dc237ea4c72695668d8c", func := "loop.example/pagetree/laws.FnPutPairOrder", spec := "fnPutPairOrder", inPlace := ["slices.overlaps[loop.example/pagetree/impl.Pair]"], unfollowed := true, recurses := true, apart := false }
def FnPutPairOrderSaid : Prop := fnPutPairOrderRow.holds Try.pinned (OpenSpec.ofChange fnPutPairOrderSpec)

/-- ITS FALSE NEIGHBOUR: 'it returns false'. Refute it at one input. -/
def fnPutPairOrderWrong : ChangeSpec := { name := "fnPutPairOrder", fn := fun _ => fun
  | [d] => { results := [.lit (.bool false)], args := [d] }
  | _ => none }
def FnPutPairOrderWrongFalsely : Prop := fnPutPairOrderRow.holds Try.pinned (OpenSpec.ofChange fnPutPairOrderWrong)

/- THE SECOND FORM. 'bulk': how many values and letters a reading holds, each counted each time it is reached (what is shared counts as often as it is met; a slice's spare places count too). A statement '..UptoSaid' is the law's where the arguments, and the package variables that the reading takes, are together of bulk at most 1048576: NARROWER than '..Said'. Prove '..Said' where nothing that the law and all that it calls make is longer than what came in: it says more and counts as full. Else prove '..UptoSaid'. A law counts once. -/
mutual
def uptoBulk {H : Type} : DataW H → Nat
  | .lit (.string bytes) => bytes.length + 1
  | .lit _ => 1
  | .nil => 1
  | .ptr d => uptoBulk d + 1
  | .slice elems spare => uptoBulkAll elems + uptoBulkAll spare + 1
  | .agg parts => uptoBulkAll parts + 1
  | .iface _ d => uptoBulk d + 1
  | .map entries => uptoBulkEntries entries + 1
  | .held _ => 1
def uptoBulkAll {H : Type} : List (DataW H) → Nat
  | [] => 0
  | d :: r => uptoBulk d + uptoBulkAll r
def uptoBulkEntries {H : Type} : List (Lit × DataW H) → Nat
  | [] => 0
  | x :: r => uptoBulkEntry x + uptoBulkEntries r
def uptoBulkEntry {H : Type} : Lit × DataW H → Nat
  | (.string bytes, d) => bytes.length + uptoBulk d + 1
  | (_, d) => uptoBulk d + 1
 end
def uptoSmall : (H : Type) → List (DataW H) → Bool := fun _ ds => decide (uptoBulkAll ds ≤ 1048576)
def OpenSpec.upto (s : _root_.Go.ChangeSpec) : _root_.Go.OpenSpec := { _root_.Go.OpenSpec.ofChange s with cond := some uptoSmall }

/-- 'laws.FnSplitInner', WHERE WHAT IT READS IS OF BULK AT MOST 1048576: true; the input reads as it did. -/
def fnSplitInnerUptoRow : OpenClaim := { program := "ytjbihdcdamchnaa", sum := "25c2a3309f0a99f16aedc340ab047cfb305637900cd6dc237ea4c72695668d8c", func := "loop.example/pagetree/laws.FnSplitInner", spec := "fnSplitInner", apart := false, narrowed := true }
def FnSplitInnerUptoSaid : Prop := fnSplitInnerUptoRow.holds Try.pinned (OpenSpec.upto fnSplitInnerSpec)

/-- 'laws.FnValueInJoin', WHERE WHAT IT READS IS OF BULK AT MOST 1048576: true; the input reads as it did. -/
def fnValueInJoinUptoRow : OpenClaim := { program := "ytjbihdcdamchnaa", sum := "25c2a3309f0a99f16aedc340ab047cfb305637900cd6dc237ea4c72695668d8c", func := "loop.example/pagetree/laws.FnValueInJoin", spec := "fnValueInJoin", unfollowed := true, recurses := true, apart := false, narrowed := true }
def FnValueInJoinUptoSaid : Prop := fnValueInJoinUptoRow.holds Try.pinned (OpenSpec.upto fnValueInJoinSpec)

/-- 'laws.FnJoinInnerSplit', WHERE WHAT IT READS IS OF BULK AT MOST 1048576: true; the input reads as it did. -/
def fnJoinInnerSplitUptoRow : OpenClaim := { program := "ytjbihdcdamchnaa", sum := "25c2a3309f0a99f16aedc340ab047cfb305637900cd6dc237ea4c72695668d8c", func := "loop.example/pagetree/laws.FnJoinInnerSplit", spec := "fnJoinInnerSplit", apart := false, narrowed := true }
def FnJoinInnerSplitUptoSaid : Prop := fnJoinInnerSplitUptoRow.holds Try.pinned (OpenSpec.upto fnJoinInnerSplitSpec)

/-- 'laws.FnDropPairNone', WHERE WHAT IT READS IS OF BULK AT MOST 1048576: true; the input reads as it did. -/
def fnDropPairNoneUptoRow : OpenClaim := { program := "ytjbihdcdamchnaa", sum := "25c2a3309f0a99f16aedc340ab047cfb305637900cd6dc237ea4c72695668d8c", func := "loop.example/pagetree/laws.FnDropPairNone", spec := "fnDropPairNone", unfollowed := true, recurses := true, apart := false, narrowed := true }
def FnDropPairNoneUptoSaid : Prop := fnDropPairNoneUptoRow.holds Try.pinned (OpenSpec.upto fnDropPairNoneSpec)

/-- 'laws.FnInsertKeyCount', WHERE WHAT IT READS IS OF BULK AT MOST 1048576: true; the input reads as it did. -/
def fnInsertKeyCountUptoRow : OpenClaim := { program := "ytjbihdcdamchnaa", sum := "25c2a3309f0a99f16aedc340ab047cfb305637900cd6dc237ea4c72695668d8c", func := "loop.example/pagetree/laws.FnInsertKeyCount", spec := "fnInsertKeyCount", inPlace := ["slices.overlaps[int]"], unfollowed := true, recurses := true, apart := false, narrowed := true }
def FnInsertKeyCountUptoSaid : Prop := fnInsertKeyCountUptoRow.holds Try.pinned (OpenSpec.upto fnInsertKeyCountSpec)

/-- 'laws.FnInsertKeyOrder', WHERE WHAT IT READS IS OF BULK AT MOST 1048576: true; the input reads as it did. -/
def fnInsertKeyOrderUptoRow : OpenClaim := { program := "ytjbihdcdamchnaa", sum := "25c2a3309f0a99f16aedc340ab047cfb305637900cd6dc237ea4c72695668d8c", func := "loop.example/pagetree/laws.FnInsertKeyOrder", spec := "fnInsertKeyOrder", inPlace := ["slices.overlaps[int]"], unfollowed := true, recurses := true, apart := false, narrowed := true }
def FnInsertKeyOrderUptoSaid : Prop := fnInsertKeyOrderUptoRow.holds Try.pinned (OpenSpec.upto fnInsertKeyOrderSpec)

/-- 'laws.FnAddKidCount', WHERE WHAT IT READS IS OF BULK AT MOST 1048576: true; the input reads as it did. -/
def fnAddKidCountUptoRow : OpenClaim := { program := "ytjbihdcdamchnaa", sum := "25c2a3309f0a99f16aedc340ab047cfb305637900cd6dc237ea4c72695668d8c", func := "loop.example/pagetree/laws.FnAddKidCount", spec := "fnAddKidCount", inPlace := ["slices.overlaps[int]"], apart := false, narrowed := true }
def FnAddKidCountUptoSaid : Prop := fnAddKidCountUptoRow.holds Try.pinned (OpenSpec.upto fnAddKidCountSpec)

/-- 'laws.FnInsertKey', WHERE WHAT IT READS IS OF BULK AT MOST 1048576: true; the input reads as it did. -/
def fnInsertKeyUptoRow : OpenClaim := { program := "ytjbihdcdamchnaa", sum := "25c2a3309f0a99f16aedc340ab047cfb305637900cd6dc237ea4c72695668d8c", func := "loop.example/pagetree/laws.FnInsertKey", spec := "fnInsertKey", inPlace := ["slices.overlaps[int]"], unfollowed := true, recurses := true, apart := false, narrowed := true }
def FnInsertKeyUptoSaid : Prop := fnInsertKeyUptoRow.holds Try.pinned (OpenSpec.upto fnInsertKeySpec)

/-- 'laws.FnRemoveKey', WHERE WHAT IT READS IS OF BULK AT MOST 1048576: true; the input reads as it did. -/
def fnRemoveKeyUptoRow : OpenClaim := { program := "ytjbihdcdamchnaa", sum := "25c2a3309f0a99f16aedc340ab047cfb305637900cd6dc237ea4c72695668d8c", func := "loop.example/pagetree/laws.FnRemoveKey", spec := "fnRemoveKey", inPlace := ["slices.overlaps[int]"], unfollowed := true, recurses := true, apart := false, narrowed := true }
def FnRemoveKeyUptoSaid : Prop := fnRemoveKeyUptoRow.holds Try.pinned (OpenSpec.upto fnRemoveKeySpec)

/-- 'laws.FnRemoveKeyNone', WHERE WHAT IT READS IS OF BULK AT MOST 1048576: true; the input reads as it did. -/
def fnRemoveKeyNoneUptoRow : OpenClaim := { program := "ytjbihdcdamchnaa", sum := "25c2a3309f0a99f16aedc340ab047cfb305637900cd6dc237ea4c72695668d8c", func := "loop.example/pagetree/laws.FnRemoveKeyNone", spec := "fnRemoveKeyNone", inPlace := ["slices.overlaps[int]"], unfollowed := true, recurses := true, apart := false, narrowed := true }
def FnRemoveKeyNoneUptoSaid : Prop := fnRemoveKeyNoneUptoRow.holds Try.pinned (OpenSpec.upto fnRemoveKeyNoneSpec)

/-- 'laws.FnAddKidRoute', WHERE WHAT IT READS IS OF BULK AT MOST 1048576: true; the input reads as it did. -/
def fnAddKidRouteUptoRow : OpenClaim := { program := "ytjbihdcdamchnaa", sum := "25c2a3309f0a99f16aedc340ab047cfb305637900cd6dc237ea4c72695668d8c", func := "loop.example/pagetree/laws.FnAddKidRoute", spec := "fnAddKidRoute", inPlace := ["slices.overlaps[int]"], unfollowed := true, recurses := true, apart := false, narrowed := true }
def FnAddKidRouteUptoSaid : Prop := fnAddKidRouteUptoRow.holds Try.pinned (OpenSpec.upto fnAddKidRouteSpec)

/-- 'laws.FnPutPairOrder', WHERE WHAT IT READS IS OF BULK AT MOST 1048576: true; the input reads as it did. -/
def fnPutPairOrderUptoRow : OpenClaim := { program := "ytjbihdcdamchnaa", sum := "25c2a3309f0a99f16aedc340ab047cfb305637900cd6dc237ea4c72695668d8c", func := "loop.example/pagetree/laws.FnPutPairOrder", spec := "fnPutPairOrder", inPlace := ["slices.overlaps[loop.example/pagetree/impl.Pair]"], unfollowed := true, recurses := true, apart := false, narrowed := true }
def FnPutPairOrderUptoSaid : Prop := fnPutPairOrderUptoRow.holds Try.pinned (OpenSpec.upto fnPutPairOrderSpec)

end Rows
end Go.Proofs.Ytjbihdcdamchnaa
