/-
  No cell of these rows narrows 'for every input' (looked for: loops, veiled, ifaces, maps, wideKeys, modest, calm, conditions, laid).
  DERIVED. THE GIVEN ROWS OF THIS SEAT. 9 by the template 'for every input the law returns true; each argument reads behind the call as it read before'; 0 by the template 'total and deterministic' (their statements: YtnnmedfjjkmbaaaTotals.lean).
  GIVEN WITH THE SEED: the statements are not yours to turn. If you find one false, say at which input.
  Laid BY PROGRAM, IN A SANDBOX (cutbox-rows.mjs): the forced cells as the released guide's own fill.sh prints them over the translation e6ea1cc40e70025a… (all of the seat's roots in one cut). By AI agents, Wed Nov 11 2026. No macro, syntax, notation, axiom, sorry.
-/
import Derived.Test.YtnnmedfjjkmbaaaChecked
import GoSem.Claim
import GoSem.ClaimJoined
import GoSem.ClaimMapViews
import Derived.JoinedTies
import Derived.KernelRfl
namespace Go.Proofs.Ytnnmedfjjkmbaaa
/- THE CELL 'sum', in the pinned program and in every row, IS THE sha256 OF THE DUMP (.gsa) THAT YtnnmedfjjkmbaaaProg.lean LOADS. Nothing in Lean hashes anything: it is a label: what it is worth is what the hold of that sum in a sandbox is worth. -/
noncomputable def Try.pinned : Pinned := { name := "ytnnmedfjjkmbaaa", sum := "e6ea1cc40e70025ab4ccd0a9cbf7c82105f785cdc06298d8aedfe3cc9b06ceb5", checked := Try.checked }
namespace Rows
def none {H : Type} : Left H := { results := [], args := [] }

/-- 'laws.FnPutPairTwice': WHATEVER THE INPUT: true; the input reads as it did. -/
def fnPutPairTwiceSpec : ChangeSpec := { name := "fnPutPairTwice", fn := fun _ => fun
  | [d] => { results := [.lit (.bool true)], args := [d] }
  | _ => none }
def fnPutPairTwiceRow : OpenClaim := { program := "ytnnmedfjjkmbaaa", sum := "e6ea1cc40e70025ab4ccd0a9cbf7c82105f785cdc06298d8aedfe3cc9b06ceb5", func := "loop.example/pagetree/laws.FnPutPairTwice", spec := "fnPutPairTwice", inPlace := ["slices.overlaps[loop.example/pagetree/impl.Pair]"], unfollowed := true, recurses := true, apart := false }
def FnPutPairTwiceSaid : Prop := fnPutPairTwiceRow.holds Try.pinned (OpenSpec.ofChange fnPutPairTwiceSpec)

/-- ITS FALSE NEIGHBOUR: 'it returns false'. Refute it at one input. -/
def fnPutPairTwiceWrong : ChangeSpec := { name := "fnPutPairTwice", fn := fun _ => fun
  | [d] => { results := [.lit (.bool false)], args := [d] }
  | _ => none }
def FnPutPairTwiceWrongFalsely : Prop := fnPutPairTwiceRow.holds Try.pinned (OpenSpec.ofChange fnPutPairTwiceWrong)

/-- 'laws.FnPutPair': WHATEVER THE INPUT: true; the input reads as it did. -/
def fnPutPairSpec : ChangeSpec := { name := "fnPutPair", fn := fun _ => fun
  | [d] => { results := [.lit (.bool true)], args := [d] }
  | _ => none }
def fnPutPairRow : OpenClaim := { program := "ytnnmedfjjkmbaaa", sum := "e6ea1cc40e70025ab4ccd0a9cbf7c82105f785cdc06298d8aedfe3cc9b06ceb5", func := "loop.example/pagetree/laws.FnPutPair", spec := "fnPutPair", inPlace := ["slices.overlaps[loop.example/pagetree/impl.Pair]"], unfollowed := true, recurses := true, apart := false }
def FnPutPairSaid : Prop := fnPutPairRow.holds Try.pinned (OpenSpec.ofChange fnPutPairSpec)

/-- ITS FALSE NEIGHBOUR: 'it returns false'. Refute it at one input. -/
def fnPutPairWrong : ChangeSpec := { name := "fnPutPair", fn := fun _ => fun
  | [d] => { results := [.lit (.bool false)], args := [d] }
  | _ => none }
def FnPutPairWrongFalsely : Prop := fnPutPairRow.holds Try.pinned (OpenSpec.ofChange fnPutPairWrong)

/-- 'laws.FnAddKid': WHATEVER THE INPUT: true; the input reads as it did. -/
def fnAddKidSpec : ChangeSpec := { name := "fnAddKid", fn := fun _ => fun
  | [d] => { results := [.lit (.bool true)], args := [d] }
  | _ => none }
def fnAddKidRow : OpenClaim := { program := "ytnnmedfjjkmbaaa", sum := "e6ea1cc40e70025ab4ccd0a9cbf7c82105f785cdc06298d8aedfe3cc9b06ceb5", func := "loop.example/pagetree/laws.FnAddKid", spec := "fnAddKid", inPlace := ["slices.overlaps[int]"], unfollowed := true, recurses := true, apart := false }
def FnAddKidSaid : Prop := fnAddKidRow.holds Try.pinned (OpenSpec.ofChange fnAddKidSpec)

/-- ITS FALSE NEIGHBOUR: 'it returns false'. Refute it at one input. -/
def fnAddKidWrong : ChangeSpec := { name := "fnAddKid", fn := fun _ => fun
  | [d] => { results := [.lit (.bool false)], args := [d] }
  | _ => none }
def FnAddKidWrongFalsely : Prop := fnAddKidRow.holds Try.pinned (OpenSpec.ofChange fnAddKidWrong)

/-- 'laws.FnDropPair': WHATEVER THE INPUT: true; the input reads as it did. -/
def fnDropPairSpec : ChangeSpec := { name := "fnDropPair", fn := fun _ => fun
  | [d] => { results := [.lit (.bool true)], args := [d] }
  | _ => none }
def fnDropPairRow : OpenClaim := { program := "ytnnmedfjjkmbaaa", sum := "e6ea1cc40e70025ab4ccd0a9cbf7c82105f785cdc06298d8aedfe3cc9b06ceb5", func := "loop.example/pagetree/laws.FnDropPair", spec := "fnDropPair", inPlace := ["slices.overlaps[loop.example/pagetree/impl.Pair]"], unfollowed := true, recurses := true, apart := false }
def FnDropPairSaid : Prop := fnDropPairRow.holds Try.pinned (OpenSpec.ofChange fnDropPairSpec)

/-- ITS FALSE NEIGHBOUR: 'it returns false'. Refute it at one input. -/
def fnDropPairWrong : ChangeSpec := { name := "fnDropPair", fn := fun _ => fun
  | [d] => { results := [.lit (.bool false)], args := [d] }
  | _ => none }
def FnDropPairWrongFalsely : Prop := fnDropPairRow.holds Try.pinned (OpenSpec.ofChange fnDropPairWrong)

/-- 'laws.FnLoadTreeFill': WHATEVER THE INPUT: true; the input reads as it did. -/
def fnLoadTreeFillSpec : ChangeSpec := { name := "fnLoadTreeFill", fn := fun _ => fun
  | [d] => { results := [.lit (.bool true)], args := [d] }
  | _ => none }
def fnLoadTreeFillRow : OpenClaim := { program := "ytnnmedfjjkmbaaa", sum := "e6ea1cc40e70025ab4ccd0a9cbf7c82105f785cdc06298d8aedfe3cc9b06ceb5", func := "loop.example/pagetree/laws.FnLoadTreeFill", spec := "fnLoadTreeFill", recurses := true, apart := false }
def FnLoadTreeFillSaid : Prop := fnLoadTreeFillRow.holds Try.pinned (OpenSpec.ofChange fnLoadTreeFillSpec)

/-- ITS FALSE NEIGHBOUR: 'it returns false'. Refute it at one input. -/
def fnLoadTreeFillWrong : ChangeSpec := { name := "fnLoadTreeFill", fn := fun _ => fun
  | [d] => { results := [.lit (.bool false)], args := [d] }
  | _ => none }
def FnLoadTreeFillWrongFalsely : Prop := fnLoadTreeFillRow.holds Try.pinned (OpenSpec.ofChange fnLoadTreeFillWrong)

/-- 'laws.FnFillOfLoad': WHATEVER THE INPUT: true; the input reads as it did. -/
def fnFillOfLoadSpec : ChangeSpec := { name := "fnFillOfLoad", fn := fun _ => fun
  | [d] => { results := [.lit (.bool true)], args := [d] }
  | _ => none }
def fnFillOfLoadRow : OpenClaim := { program := "ytnnmedfjjkmbaaa", sum := "e6ea1cc40e70025ab4ccd0a9cbf7c82105f785cdc06298d8aedfe3cc9b06ceb5", func := "loop.example/pagetree/laws.FnFillOfLoad", spec := "fnFillOfLoad", recurses := true, apart := false }
def FnFillOfLoadSaid : Prop := fnFillOfLoadRow.holds Try.pinned (OpenSpec.ofChange fnFillOfLoadSpec)

/-- ITS FALSE NEIGHBOUR: 'it returns false'. Refute it at one input. -/
def fnFillOfLoadWrong : ChangeSpec := { name := "fnFillOfLoad", fn := fun _ => fun
  | [d] => { results := [.lit (.bool false)], args := [d] }
  | _ => none }
def FnFillOfLoadWrongFalsely : Prop := fnFillOfLoadRow.holds Try.pinned (OpenSpec.ofChange fnFillOfLoadWrong)

/-- 'laws.FnLoadTreeRow': WHATEVER THE INPUT: true; the input reads as it did. -/
def fnLoadTreeRowSpec : ChangeSpec := { name := "fnLoadTreeRow", fn := fun _ => fun
  | [d] => { results := [.lit (.bool true)], args := [d] }
  | _ => none }
def fnLoadTreeRowRow : OpenClaim := { program := "ytnnmedfjjkmbaaa", sum := "e6ea1cc40e70025ab4ccd0a9cbf7c82105f785cdc06298d8aedfe3cc9b06ceb5", func := "loop.example/pagetree/laws.FnLoadTreeRow", spec := "fnLoadTreeRow", recurses := true, apart := false }
def FnLoadTreeRowSaid : Prop := fnLoadTreeRowRow.holds Try.pinned (OpenSpec.ofChange fnLoadTreeRowSpec)

/-- ITS FALSE NEIGHBOUR: 'it returns false'. Refute it at one input. -/
def fnLoadTreeRowWrong : ChangeSpec := { name := "fnLoadTreeRow", fn := fun _ => fun
  | [d] => { results := [.lit (.bool false)], args := [d] }
  | _ => none }
def FnLoadTreeRowWrongFalsely : Prop := fnLoadTreeRowRow.holds Try.pinned (OpenSpec.ofChange fnLoadTreeRowWrong)

/-- 'laws.FnLoadTree': WHATEVER THE INPUT: true; the input reads as it did. -/
def fnLoadTreeSpec : ChangeSpec := { name := "fnLoadTree", fn := fun _ => fun
  | [d] => { results := [.lit (.bool true)], args := [d] }
  | _ => none }
def fnLoadTreeRow : OpenClaim := { program := "ytnnmedfjjkmbaaa", sum := "e6ea1cc40e70025ab4ccd0a9cbf7c82105f785cdc06298d8aedfe3cc9b06ceb5", func := "loop.example/pagetree/laws.FnLoadTree", spec := "fnLoadTree", recurses := true, apart := false }
def FnLoadTreeSaid : Prop := fnLoadTreeRow.holds Try.pinned (OpenSpec.ofChange fnLoadTreeSpec)

/-- ITS FALSE NEIGHBOUR: 'it returns false'. Refute it at one input. -/
def fnLoadTreeWrong : ChangeSpec := { name := "fnLoadTree", fn := fun _ => fun
  | [d] => { results := [.lit (.bool false)], args := [d] }
  | _ => none }
def FnLoadTreeWrongFalsely : Prop := fnLoadTreeRow.holds Try.pinned (OpenSpec.ofChange fnLoadTreeWrong)

/-- 'laws.FnLoadTreeNumber': WHATEVER THE INPUT: true; the input reads as it did. -/
def fnLoadTreeNumberSpec : ChangeSpec := { name := "fnLoadTreeNumber", fn := fun _ => fun
  | [d] => { results := [.lit (.bool true)], args := [d] }
  | _ => none }
def fnLoadTreeNumberRow : OpenClaim := { program := "ytnnmedfjjkmbaaa", sum := "e6ea1cc40e70025ab4ccd0a9cbf7c82105f785cdc06298d8aedfe3cc9b06ceb5", func := "loop.example/pagetree/laws.FnLoadTreeNumber", spec := "fnLoadTreeNumber", recurses := true, apart := false }
def FnLoadTreeNumberSaid : Prop := fnLoadTreeNumberRow.holds Try.pinned (OpenSpec.ofChange fnLoadTreeNumberSpec)

/-- ITS FALSE NEIGHBOUR: 'it returns false'. Refute it at one input. -/
def fnLoadTreeNumberWrong : ChangeSpec := { name := "fnLoadTreeNumber", fn := fun _ => fun
  | [d] => { results := [.lit (.bool false)], args := [d] }
  | _ => none }
def FnLoadTreeNumberWrongFalsely : Prop := fnLoadTreeNumberRow.holds Try.pinned (OpenSpec.ofChange fnLoadTreeNumberWrong)

/- THE SECOND FORM. 'bulk': how many values and letters a reading holds, each counted each time it is reached (what is shared counts as often as it is met; a slice's spare places count too). A statement '..UptoSaid' is the law's where the arguments, and the package variables that the reading takes, are together of bulk at most 1048576: NARROWER than '..Said'. Prove '..Said' where nothing that the law and all that it calls make is longer than what came in: it says more and counts as full. Else prove '..UptoSaid'. A law counts once. -/
mutual
def uptoBulk {H : Type} : DataW H → Nat
  | .lit (.string bytes) => bytes.length + 1
  | .lit _ => 1
  | .nil => 1
  | .ptr d => uptoBulk d + 1
  | .slice elems spare => uptoBulkAll elems + uptoBulkAll spare + 1
  | .agg parts => uptoBulkAll parts + 1
  | .iface _ d => uptoBulk d + 1
  | .map entries => uptoBulkEntries entries + 1
  | .held _ => 1
def uptoBulkAll {H : Type} : List (DataW H) → Nat
  | [] => 0
  | d :: r => uptoBulk d + uptoBulkAll r
def uptoBulkEntries {H : Type} : List (Lit × DataW H) → Nat
  | [] => 0
  | x :: r => uptoBulkEntry x + uptoBulkEntries r
def uptoBulkEntry {H : Type} : Lit × DataW H → Nat
  | (.string bytes, d) => bytes.length + uptoBulk d + 1
  | (_, d) => uptoBulk d + 1
 end
def uptoSmall : (H : Type) → List (DataW H) → Bool := fun _ ds => decide (uptoBulkAll ds ≤ 1048576)
def OpenSpec.upto (s : _root_.Go.ChangeSpec) : _root_.Go.OpenSpec := { _root_.Go.OpenSpec.ofChange s with cond := some uptoSmall }

/-- 'laws.FnPutPairTwice', WHERE WHAT IT READS IS OF BULK AT MOST 1048576: true; the input reads as it did. -/
def fnPutPairTwiceUptoRow : OpenClaim := { program := "ytnnmedfjjkmbaaa", sum := "e6ea1cc40e70025ab4ccd0a9cbf7c82105f785cdc06298d8aedfe3cc9b06ceb5", func := "loop.example/pagetree/laws.FnPutPairTwice", spec := "fnPutPairTwice", inPlace := ["slices.overlaps[loop.example/pagetree/impl.Pair]"], unfollowed := true, recurses := true, apart := false, narrowed := true }
def FnPutPairTwiceUptoSaid : Prop := fnPutPairTwiceUptoRow.holds Try.pinned (OpenSpec.upto fnPutPairTwiceSpec)

/-- 'laws.FnPutPair', WHERE WHAT IT READS IS OF BULK AT MOST 1048576: true; the input reads as it did. -/
def fnPutPairUptoRow : OpenClaim := { program := "ytnnmedfjjkmbaaa", sum := "e6ea1cc40e70025ab4ccd0a9cbf7c82105f785cdc06298d8aedfe3cc9b06ceb5", func := "loop.example/pagetree/laws.FnPutPair", spec := "fnPutPair", inPlace := ["slices.overlaps[loop.example/pagetree/impl.Pair]"], unfollowed := true, recurses := true, apart := false, narrowed := true }
def FnPutPairUptoSaid : Prop := fnPutPairUptoRow.holds Try.pinned (OpenSpec.upto fnPutPairSpec)

/-- 'laws.FnAddKid', WHERE WHAT IT READS IS OF BULK AT MOST 1048576: true; the input reads as it did. -/
def fnAddKidUptoRow : OpenClaim := { program := "ytnnmedfjjkmbaaa", sum := "e6ea1cc40e70025ab4ccd0a9cbf7c82105f785cdc06298d8aedfe3cc9b06ceb5", func := "loop.example/pagetree/laws.FnAddKid", spec := "fnAddKid", inPlace := ["slices.overlaps[int]"], unfollowed := true, recurses := true, apart := false, narrowed := true }
def FnAddKidUptoSaid : Prop := fnAddKidUptoRow.holds Try.pinned (OpenSpec.upto fnAddKidSpec)

/-- 'laws.FnDropPair', WHERE WHAT IT READS IS OF BULK AT MOST 1048576: true; the input reads as it did. -/
def fnDropPairUptoRow : OpenClaim := { program := "ytnnmedfjjkmbaaa", sum := "e6ea1cc40e70025ab4ccd0a9cbf7c82105f785cdc06298d8aedfe3cc9b06ceb5", func := "loop.example/pagetree/laws.FnDropPair", spec := "fnDropPair", inPlace := ["slices.overlaps[loop.example/pagetree/impl.Pair]"], unfollowed := true, recurses := true, apart := false, narrowed := true }
def FnDropPairUptoSaid : Prop := fnDropPairUptoRow.holds Try.pinned (OpenSpec.upto fnDropPairSpec)

/-- 'laws.FnLoadTreeFill', WHERE WHAT IT READS IS OF BULK AT MOST 1048576: true; the input reads as it did. -/
def fnLoadTreeFillUptoRow : OpenClaim := { program := "ytnnmedfjjkmbaaa", sum := "e6ea1cc40e70025ab4ccd0a9cbf7c82105f785cdc06298d8aedfe3cc9b06ceb5", func := "loop.example/pagetree/laws.FnLoadTreeFill", spec := "fnLoadTreeFill", recurses := true, apart := false, narrowed := true }
def FnLoadTreeFillUptoSaid : Prop := fnLoadTreeFillUptoRow.holds Try.pinned (OpenSpec.upto fnLoadTreeFillSpec)

/-- 'laws.FnFillOfLoad', WHERE WHAT IT READS IS OF BULK AT MOST 1048576: true; the input reads as it did. -/
def fnFillOfLoadUptoRow : OpenClaim := { program := "ytnnmedfjjkmbaaa", sum := "e6ea1cc40e70025ab4ccd0a9cbf7c82105f785cdc06298d8aedfe3cc9b06ceb5", func := "loop.example/pagetree/laws.FnFillOfLoad", spec := "fnFillOfLoad", recurses := true, apart := false, narrowed := true }
def FnFillOfLoadUptoSaid : Prop := fnFillOfLoadUptoRow.holds Try.pinned (OpenSpec.upto fnFillOfLoadSpec)

/-- 'laws.FnLoadTreeRow', WHERE WHAT IT READS IS OF BULK AT MOST 1048576: true; the input reads as it did. -/
def fnLoadTreeRowUptoRow : OpenClaim := { program := "ytnnmedfjjkmbaaa", sum := "e6ea1cc40e70025ab4ccd0a9cbf7c82105f785cdc06298d8aedfe3cc9b06ceb5", func := "loop.example/pagetree/laws.FnLoadTreeRow", spec := "fnLoadTreeRow", recurses := true, apart := false, narrowed := true }
def FnLoadTreeRowUptoSaid : Prop := fnLoadTreeRowUptoRow.holds Try.pinned (OpenSpec.upto fnLoadTreeRowSpec)

/-- 'laws.FnLoadTree', WHERE WHAT IT READS IS OF BULK AT MOST 1048576: true; the input reads as it did. -/
def fnLoadTreeUptoRow : OpenClaim := { program := "ytnnmedfjjkmbaaa", sum := "e6ea1cc40e70025ab4ccd0a9cbf7c82105f785cdc06298d8aedfe3cc9b06ceb5", func := "loop.example/pagetree/laws.FnLoadTree", spec := "fnLoadTree", recurses := true, apart := false, narrowed := true }
def FnLoadTreeUptoSaid : Prop := fnLoadTreeUptoRow.holds Try.pinned (OpenSpec.upto fnLoadTreeSpec)

/-- 'laws.FnLoadTreeNumber', WHERE WHAT IT READS IS OF BULK AT MOST 1048576: true; the input reads as it did. -/
def fnLoadTreeNumberUptoRow : OpenClaim := { program := "ytnnmedfjjkmbaaa", sum := "e6ea1cc40e70025ab4ccd0a9cbf7c82105f785cdc06298d8aedfe3cc9b06ceb5", func := "loop.example/pagetree/laws.FnLoadTreeNumber", spec := "fnLoadTreeNumber", recurses := true, apart := false, narrowed := true }
def FnLoadTreeNumberUptoSaid : Prop := fnLoadTreeNumberUptoRow.holds Try.pinned (OpenSpec.upto fnLoadTreeNumberSpec)

end Rows
end Go.Proofs.Ytnnmedfjjkmbaaa
