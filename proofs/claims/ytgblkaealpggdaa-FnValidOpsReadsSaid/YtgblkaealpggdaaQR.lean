/- A part of the proofs about laws of the page tree (see the text that bears the law): a small language of steps, its rules, and what the functions of the program return. -/
import Derived.Test.YtgblkaealpggdaaQQ
set_option linter.all false
set_option linter.unusedVariables false
set_option linter.unusedSimpArgs false
/-! the leaf for a key, by the keys between leaves -/
namespace Go.V
structure SepF (t : Pt) (h : Nat) (i lo hi : Int) : Prop where
  len : (lvB t h i).length = (sepT t h i).length + 1
  pw : (sepT t h i).Pairwise (· < ·)
  inn : ∀ x ∈ sepT t h i, lo < x ∧ x < hi
  last : ∀ k, (pth t k h i).length = h ∧ nth (pth t k h i) (h - 1) = nth (lvB t h i) (upTo (sepT t h i) k)
end Go.V
namespace Go.V
end Go.V
