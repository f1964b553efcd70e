/- A part of the proofs about laws of the page tree (see the text that bears the law): a small language of steps, its rules, and what the functions of the program return. -/
import Derived.Test.YtfhalijoljgafaaQK
set_option linter.all false
set_option linter.unusedVariables false
set_option linter.unusedSimpArgs false
namespace Go.V
/-! laws of valid trees -/
def prB (t : Pt) (h : Nat) (i : Int) : List (Int × Int) := (lvB t h i).flatMap fun i => rowG (pg t i)
end Go.V
namespace Go.V
end Go.V
namespace Go.V
theorem okT_all2 {t : Pt} (hv : validT t = true) : ∀ i ∈ lvV t, (pg t i).ks.length ≤ 4 ∧ (i = t.r ∨ 2 ≤ (pg t i).ks.length) := fun i hi => by
  rw [lvV, if_pos hv] at hi
  obtain ⟨h, lo, hi', ho⟩ := valid_page hv (lvT_mem hv hi).1
  have h1 := okT_p rfl ho
  exact ⟨h1.1.1, h1.2.1⟩
end Go.V
