/- A part of the proofs about laws of the page tree (see the text that bears the law): a small language of steps, its rules, and what the functions of the program return. -/
import Derived.Test.YtgblkaealpggdaaQX
set_option linter.all false
set_option linter.unusedVariables false
set_option linter.unusedSimpArgs false
/-! keys of loaded trees -/
namespace Go.V
end Go.V
