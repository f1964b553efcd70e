/- A part of the proofs about laws of the page tree (see the text that bears the law): a small language of steps, its rules, and what the functions of the program return. -/
import Derived.Test.YtfhalijoljgafaaQK
set_option linter.all false
set_option linter.unusedVariables false
set_option linter.unusedSimpArgs false
namespace Go.V
/-! laws of valid trees -/
theorem page_nd {t : Pt} (hv : validT t = true) {i : Int} (hi : inT t i = true) : (pg t i).cs.Nodup ∧ t.r ∉ (pg t i).cs := by
  obtain ⟨_, _, h3, h4, h5⟩ := valid_ok hv
  have h := tree_nd h3 h4
  exact ⟨h.1 i (h5 i hi), h.2.2 i (h5 i hi)⟩
def prB (t : Pt) (h : Nat) (i : Int) : List (Int × Int) := (lvB t h i).flatMap fun i => rowG (pg t i)
end Go.V
namespace Go.V
end Go.V
namespace Go.V
end Go.V
