/- A part of the proofs about laws of the page tree (see the text that bears the law): a small language of steps, its rules, and what the functions of the program return. -/
import Derived.Test.YtgblkaealpggdaaQL
set_option linter.all false
set_option linter.unusedVariables false
set_option linter.unusedSimpArgs false
namespace Go.V
/-! sums over the pages of a tree -/
def sumR (f : Nat → Nat) (n : Nat) : Nat := ((List.range n).map f).sum
/-! kids -/
def kidsTo (t : Pt) (i : Nat) : List Int := (t.ps.take i).flatMap fun p => p.cs
end Go.V
namespace Go.V
end Go.V
namespace Go.V
end Go.V
