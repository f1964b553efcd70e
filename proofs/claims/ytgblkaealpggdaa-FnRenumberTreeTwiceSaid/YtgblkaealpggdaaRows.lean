/-
  No cell of these rows narrows 'for every input' (looked for: loops, veiled, ifaces, maps, wideKeys, modest, calm, conditions, laid).
  DERIVED. THE GIVEN ROWS OF THIS SEAT. 8 by the template 'for every input the law returns true; each argument reads behind the call as it read before'; 0 by the template 'total and deterministic' (their statements: YtgblkaealpggdaaTotals.lean).
  GIVEN WITH THE SEED: the statements are not yours to turn. If you find one false, say at which input.
  Laid BY PROGRAM, IN A SANDBOX (cutbox-rows.mjs): the forced cells as the released guide's own fill.sh prints them over the translation 708d657b2d73239b… (all of the seat's roots in one cut). By AI agents, Wed Nov 11 2026. No macro, syntax, notation, axiom, sorry.
-/
import Derived.Test.YtgblkaealpggdaaChecked
import GoSem.Claim
import GoSem.ClaimJoined
import GoSem.ClaimMapViews
import Derived.JoinedTies
import Derived.KernelRfl
namespace Go.Proofs.Ytgblkaealpggdaa
/- THE CELL 'sum', in the pinned program and in every row, IS THE sha256 OF THE DUMP (.gsa) THAT YtgblkaealpggdaaProg.lean LOADS. Nothing in Lean hashes anything: it is a label: what it is worth is what the hold of that sum in a sandbox is worth. -/
noncomputable def Try.pinned : Pinned := { name := "ytgblkaealpggdaa", sum := "708d657b2d73239bbc60dfddd5b882b9093f20765663af48b963dcb4c51012e2", checked := Try.checked }
namespace Rows
def none {H : Type} : Left H := { results := [], args := [] }

/-- 'laws.FnUnpackPageChanged': WHATEVER THE INPUT: true; the input reads as it did. -/
def fnUnpackPageChangedSpec : ChangeSpec := { name := "fnUnpackPageChanged", fn := fun _ => fun
  | [d] => { results := [.lit (.bool true)], args := [d] }
  | _ => none }
def fnUnpackPageChangedRow : OpenClaim := { program := "ytgblkaealpggdaa", sum := "708d657b2d73239bbc60dfddd5b882b9093f20765663af48b963dcb4c51012e2", func := "loop.example/pagetree/laws.FnUnpackPageChanged", spec := "fnUnpackPageChanged", recurses := true, apart := false }
def FnUnpackPageChangedSaid : Prop := fnUnpackPageChangedRow.holds Try.pinned (OpenSpec.ofChange fnUnpackPageChangedSpec)

/-- ITS FALSE NEIGHBOUR: 'it returns false'. Refute it at one input. -/
def fnUnpackPageChangedWrong : ChangeSpec := { name := "fnUnpackPageChanged", fn := fun _ => fun
  | [d] => { results := [.lit (.bool false)], args := [d] }
  | _ => none }
def FnUnpackPageChangedWrongFalsely : Prop := fnUnpackPageChangedRow.holds Try.pinned (OpenSpec.ofChange fnUnpackPageChangedWrong)

/-- 'laws.FnPackPageTorn': WHATEVER THE INPUT: true; the input reads as it did. -/
def fnPackPageTornSpec : ChangeSpec := { name := "fnPackPageTorn", fn := fun _ => fun
  | [d] => { results := [.lit (.bool true)], args := [d] }
  | _ => none }
def fnPackPageTornRow : OpenClaim := { program := "ytgblkaealpggdaa", sum := "708d657b2d73239bbc60dfddd5b882b9093f20765663af48b963dcb4c51012e2", func := "loop.example/pagetree/laws.FnPackPageTorn", spec := "fnPackPageTorn", recurses := true, apart := false }
def FnPackPageTornSaid : Prop := fnPackPageTornRow.holds Try.pinned (OpenSpec.ofChange fnPackPageTornSpec)

/-- ITS FALSE NEIGHBOUR: 'it returns false'. Refute it at one input. -/
def fnPackPageTornWrong : ChangeSpec := { name := "fnPackPageTorn", fn := fun _ => fun
  | [d] => { results := [.lit (.bool false)], args := [d] }
  | _ => none }
def FnPackPageTornWrongFalsely : Prop := fnPackPageTornRow.holds Try.pinned (OpenSpec.ofChange fnPackPageTornWrong)

/-- 'laws.FnValidOps': WHATEVER THE INPUT: true; the input reads as it did. -/
def fnValidOpsSpec : ChangeSpec := { name := "fnValidOps", fn := fun _ => fun
  | [d] => { results := [.lit (.bool true)], args := [d] }
  | _ => none }
def fnValidOpsRow : OpenClaim := { program := "ytgblkaealpggdaa", sum := "708d657b2d73239bbc60dfddd5b882b9093f20765663af48b963dcb4c51012e2", func := "loop.example/pagetree/laws.FnValidOps", spec := "fnValidOps", recurses := true, apart := false }
def FnValidOpsSaid : Prop := fnValidOpsRow.holds Try.pinned (OpenSpec.ofChange fnValidOpsSpec)

/-- ITS FALSE NEIGHBOUR: 'it returns false'. Refute it at one input. -/
def fnValidOpsWrong : ChangeSpec := { name := "fnValidOps", fn := fun _ => fun
  | [d] => { results := [.lit (.bool false)], args := [d] }
  | _ => none }
def FnValidOpsWrongFalsely : Prop := fnValidOpsRow.holds Try.pinned (OpenSpec.ofChange fnValidOpsWrong)

/-- 'laws.FnValidOpsReads': WHATEVER THE INPUT: true; the input reads as it did. -/
def fnValidOpsReadsSpec : ChangeSpec := { name := "fnValidOpsReads", fn := fun _ => fun
  | [d] => { results := [.lit (.bool true)], args := [d] }
  | _ => none }
def fnValidOpsReadsRow : OpenClaim := { program := "ytgblkaealpggdaa", sum := "708d657b2d73239bbc60dfddd5b882b9093f20765663af48b963dcb4c51012e2", func := "loop.example/pagetree/laws.FnValidOpsReads", spec := "fnValidOpsReads", recurses := true, apart := false }
def FnValidOpsReadsSaid : Prop := fnValidOpsReadsRow.holds Try.pinned (OpenSpec.ofChange fnValidOpsReadsSpec)

/-- ITS FALSE NEIGHBOUR: 'it returns false'. Refute it at one input. -/
def fnValidOpsReadsWrong : ChangeSpec := { name := "fnValidOpsReads", fn := fun _ => fun
  | [d] => { results := [.lit (.bool false)], args := [d] }
  | _ => none }
def FnValidOpsReadsWrongFalsely : Prop := fnValidOpsReadsRow.holds Try.pinned (OpenSpec.ofChange fnValidOpsReadsWrong)

/-- 'laws.FnIsSafe': WHATEVER THE INPUT: true; the input reads as it did. -/
def fnIsSafeSpec : ChangeSpec := { name := "fnIsSafe", fn := fun _ => fun
  | [d] => { results := [.lit (.bool true)], args := [d] }
  | _ => none }
def fnIsSafeRow : OpenClaim := { program := "ytgblkaealpggdaa", sum := "708d657b2d73239bbc60dfddd5b882b9093f20765663af48b963dcb4c51012e2", func := "loop.example/pagetree/laws.FnIsSafe", spec := "fnIsSafe", recurses := true, apart := false }
def FnIsSafeSaid : Prop := fnIsSafeRow.holds Try.pinned (OpenSpec.ofChange fnIsSafeSpec)

/-- ITS FALSE NEIGHBOUR: 'it returns false'. Refute it at one input. -/
def fnIsSafeWrong : ChangeSpec := { name := "fnIsSafe", fn := fun _ => fun
  | [d] => { results := [.lit (.bool false)], args := [d] }
  | _ => none }
def FnIsSafeWrongFalsely : Prop := fnIsSafeRow.holds Try.pinned (OpenSpec.ofChange fnIsSafeWrong)

/-- 'laws.FnIsSafeDrop': WHATEVER THE INPUT: true; the input reads as it did. -/
def fnIsSafeDropSpec : ChangeSpec := { name := "fnIsSafeDrop", fn := fun _ => fun
  | [d] => { results := [.lit (.bool true)], args := [d] }
  | _ => none }
def fnIsSafeDropRow : OpenClaim := { program := "ytgblkaealpggdaa", sum := "708d657b2d73239bbc60dfddd5b882b9093f20765663af48b963dcb4c51012e2", func := "loop.example/pagetree/laws.FnIsSafeDrop", spec := "fnIsSafeDrop", recurses := true, apart := false }
def FnIsSafeDropSaid : Prop := fnIsSafeDropRow.holds Try.pinned (OpenSpec.ofChange fnIsSafeDropSpec)

/-- ITS FALSE NEIGHBOUR: 'it returns false'. Refute it at one input. -/
def fnIsSafeDropWrong : ChangeSpec := { name := "fnIsSafeDrop", fn := fun _ => fun
  | [d] => { results := [.lit (.bool false)], args := [d] }
  | _ => none }
def FnIsSafeDropWrongFalsely : Prop := fnIsSafeDropRow.holds Try.pinned (OpenSpec.ofChange fnIsSafeDropWrong)

/-- 'laws.FnRenumberTreeTwice': WHATEVER THE INPUT: true; the input reads as it did. -/
def fnRenumberTreeTwiceSpec : ChangeSpec := { name := "fnRenumberTreeTwice", fn := fun _ => fun
  | [d] => { results := [.lit (.bool true)], args := [d] }
  | _ => none }
def fnRenumberTreeTwiceRow : OpenClaim := { program := "ytgblkaealpggdaa", sum := "708d657b2d73239bbc60dfddd5b882b9093f20765663af48b963dcb4c51012e2", func := "loop.example/pagetree/laws.FnRenumberTreeTwice", spec := "fnRenumberTreeTwice", recurses := true, apart := false }
def FnRenumberTreeTwiceSaid : Prop := fnRenumberTreeTwiceRow.holds Try.pinned (OpenSpec.ofChange fnRenumberTreeTwiceSpec)

/-- ITS FALSE NEIGHBOUR: 'it returns false'. Refute it at one input. -/
def fnRenumberTreeTwiceWrong : ChangeSpec := { name := "fnRenumberTreeTwice", fn := fun _ => fun
  | [d] => { results := [.lit (.bool false)], args := [d] }
  | _ => none }
def FnRenumberTreeTwiceWrongFalsely : Prop := fnRenumberTreeTwiceRow.holds Try.pinned (OpenSpec.ofChange fnRenumberTreeTwiceWrong)

/-- 'laws.FnLoadTreeNumber': WHATEVER THE INPUT: true; the input reads as it did. -/
def fnLoadTreeNumberSpec : ChangeSpec := { name := "fnLoadTreeNumber", fn := fun _ => fun
  | [d] => { results := [.lit (.bool true)], args := [d] }
  | _ => none }
def fnLoadTreeNumberRow : OpenClaim := { program := "ytgblkaealpggdaa", sum := "708d657b2d73239bbc60dfddd5b882b9093f20765663af48b963dcb4c51012e2", func := "loop.example/pagetree/laws.FnLoadTreeNumber", spec := "fnLoadTreeNumber", recurses := true, apart := false }
def FnLoadTreeNumberSaid : Prop := fnLoadTreeNumberRow.holds Try.pinned (OpenSpec.ofChange fnLoadTreeNumberSpec)

/-- ITS FALSE NEIGHBOUR: 'it returns false'. Refute it at one input. -/
def fnLoadTreeNumberWrong : ChangeSpec := { name := "fnLoadTreeNumber", fn := fun _ => fun
  | [d] => { results := [.lit (.bool false)], args := [d] }
  | _ => none }
def FnLoadTreeNumberWrongFalsely : Prop := fnLoadTreeNumberRow.holds Try.pinned (OpenSpec.ofChange fnLoadTreeNumberWrong)

/- THE SECOND FORM. 'bulk': how many values and letters a reading holds, each counted each time it is reached (what is shared counts as often as it is met; a slice's spare places count too). A statement '..UptoSaid' is the law's where the arguments, and the package variables that the reading takes, are together of bulk at most 1048576: NARROWER than '..Said'. Prove '..Said' where nothing that the law and all that it calls make is longer than what came in: it says more and counts as full. Else prove '..UptoSaid'. A law counts once. -/
mutual
def uptoBulk {H : Type} : DataW H → Nat
  | .lit (.string bytes) => bytes.length + 1
  | .lit _ => 1
  | .nil => 1
  | .ptr d => uptoBulk d + 1
  | .slice elems spare => uptoBulkAll elems + uptoBulkAll spare + 1
  | .agg parts => uptoBulkAll parts + 1
  | .iface _ d => uptoBulk d + 1
  | .map entries => uptoBulkEntries entries + 1
  | .held _ => 1
def uptoBulkAll {H : Type} : List (DataW H) → Nat
  | [] => 0
  | d :: r => uptoBulk d + uptoBulkAll r
def uptoBulkEntries {H : Type} : List (Lit × DataW H) → Nat
  | [] => 0
  | x :: r => uptoBulkEntry x + uptoBulkEntries r
def uptoBulkEntry {H : Type} : Lit × DataW H → Nat
  | (.string bytes, d) => bytes.length + uptoBulk d + 1
  | (_, d) => uptoBulk d + 1
 end
def uptoSmall : (H : Type) → List (DataW H) → Bool := fun _ ds => decide (uptoBulkAll ds ≤ 1048576)
def OpenSpec.upto (s : _root_.Go.ChangeSpec) : _root_.Go.OpenSpec := { _root_.Go.OpenSpec.ofChange s with cond := some uptoSmall }

/-- 'laws.FnUnpackPageChanged', WHERE WHAT IT READS IS OF BULK AT MOST 1048576: true; the input reads as it did. -/
def fnUnpackPageChangedUptoRow : OpenClaim := { program := "ytgblkaealpggdaa", sum := "708d657b2d73239bbc60dfddd5b882b9093f20765663af48b963dcb4c51012e2", func := "loop.example/pagetree/laws.FnUnpackPageChanged", spec := "fnUnpackPageChanged", recurses := true, apart := false, narrowed := true }
def FnUnpackPageChangedUptoSaid : Prop := fnUnpackPageChangedUptoRow.holds Try.pinned (OpenSpec.upto fnUnpackPageChangedSpec)

/-- 'laws.FnPackPageTorn', WHERE WHAT IT READS IS OF BULK AT MOST 1048576: true; the input reads as it did. -/
def fnPackPageTornUptoRow : OpenClaim := { program := "ytgblkaealpggdaa", sum := "708d657b2d73239bbc60dfddd5b882b9093f20765663af48b963dcb4c51012e2", func := "loop.example/pagetree/laws.FnPackPageTorn", spec := "fnPackPageTorn", recurses := true, apart := false, narrowed := true }
def FnPackPageTornUptoSaid : Prop := fnPackPageTornUptoRow.holds Try.pinned (OpenSpec.upto fnPackPageTornSpec)

/-- 'laws.FnValidOps', WHERE WHAT IT READS IS OF BULK AT MOST 1048576: true; the input reads as it did. -/
def fnValidOpsUptoRow : OpenClaim := { program := "ytgblkaealpggdaa", sum := "708d657b2d73239bbc60dfddd5b882b9093f20765663af48b963dcb4c51012e2", func := "loop.example/pagetree/laws.FnValidOps", spec := "fnValidOps", recurses := true, apart := false, narrowed := true }
def FnValidOpsUptoSaid : Prop := fnValidOpsUptoRow.holds Try.pinned (OpenSpec.upto fnValidOpsSpec)

/-- 'laws.FnValidOpsReads', WHERE WHAT IT READS IS OF BULK AT MOST 1048576: true; the input reads as it did. -/
def fnValidOpsReadsUptoRow : OpenClaim := { program := "ytgblkaealpggdaa", sum := "708d657b2d73239bbc60dfddd5b882b9093f20765663af48b963dcb4c51012e2", func := "loop.example/pagetree/laws.FnValidOpsReads", spec := "fnValidOpsReads", recurses := true, apart := false, narrowed := true }
def FnValidOpsReadsUptoSaid : Prop := fnValidOpsReadsUptoRow.holds Try.pinned (OpenSpec.upto fnValidOpsReadsSpec)

/-- 'laws.FnIsSafe', WHERE WHAT IT READS IS OF BULK AT MOST 1048576: true; the input reads as it did. -/
def fnIsSafeUptoRow : OpenClaim := { program := "ytgblkaealpggdaa", sum := "708d657b2d73239bbc60dfddd5b882b9093f20765663af48b963dcb4c51012e2", func := "loop.example/pagetree/laws.FnIsSafe", spec := "fnIsSafe", recurses := true, apart := false, narrowed := true }
def FnIsSafeUptoSaid : Prop := fnIsSafeUptoRow.holds Try.pinned (OpenSpec.upto fnIsSafeSpec)

/-- 'laws.FnIsSafeDrop', WHERE WHAT IT READS IS OF BULK AT MOST 1048576: true; the input reads as it did. -/
def fnIsSafeDropUptoRow : OpenClaim := { program := "ytgblkaealpggdaa", sum := "708d657b2d73239bbc60dfddd5b882b9093f20765663af48b963dcb4c51012e2", func := "loop.example/pagetree/laws.FnIsSafeDrop", spec := "fnIsSafeDrop", recurses := true, apart := false, narrowed := true }
def FnIsSafeDropUptoSaid : Prop := fnIsSafeDropUptoRow.holds Try.pinned (OpenSpec.upto fnIsSafeDropSpec)

/-- 'laws.FnRenumberTreeTwice', WHERE WHAT IT READS IS OF BULK AT MOST 1048576: true; the input reads as it did. -/
def fnRenumberTreeTwiceUptoRow : OpenClaim := { program := "ytgblkaealpggdaa", sum := "708d657b2d73239bbc60dfddd5b882b9093f20765663af48b963dcb4c51012e2", func := "loop.example/pagetree/laws.FnRenumberTreeTwice", spec := "fnRenumberTreeTwice", recurses := true, apart := false, narrowed := true }
def FnRenumberTreeTwiceUptoSaid : Prop := fnRenumberTreeTwiceUptoRow.holds Try.pinned (OpenSpec.upto fnRenumberTreeTwiceSpec)

/-- 'laws.FnLoadTreeNumber', WHERE WHAT IT READS IS OF BULK AT MOST 1048576: true; the input reads as it did. -/
def fnLoadTreeNumberUptoRow : OpenClaim := { program := "ytgblkaealpggdaa", sum := "708d657b2d73239bbc60dfddd5b882b9093f20765663af48b963dcb4c51012e2", func := "loop.example/pagetree/laws.FnLoadTreeNumber", spec := "fnLoadTreeNumber", recurses := true, apart := false, narrowed := true }
def FnLoadTreeNumberUptoSaid : Prop := fnLoadTreeNumberUptoRow.holds Try.pinned (OpenSpec.upto fnLoadTreeNumberSpec)

end Rows
end Go.Proofs.Ytgblkaealpggdaa
