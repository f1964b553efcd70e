/- A part of the proofs about laws of the page tree (see the text that bears the law): a small language of steps, its rules, and what the functions of the program return. -/
import Derived.Test.YtfhalijoljgafaaQM
set_option linter.all false
set_option linter.unusedVariables false
set_option linter.unusedSimpArgs false
/-! pages that can be packed -/
namespace Go.V
def fitsG (g : Pg) : Bool := goodKeys g.ks && decide (g.ks.length ≤ 4) && (if g.cs.length = 0 then decide (g.vs.length = g.ks.length) && g.vs.all (fun k => decide (-1000 ≤ k) && decide (k ≤ 1000)) else decide (g.vs.length = 0) && goodInner g.ks g.cs)
def anyG (g : Pg) : Prop := g.ks.length ≤ 100 ∧ g.cs.length ≤ 100 ∧ g.vs.length ≤ 100
end Go.V
