/- A part of the proofs about laws of the page tree (see the text that bears the law): a small language of steps, its rules, and what the functions of the program return. -/
import Derived.Test.YtgblkaealpggdaaQO
set_option linter.all false
set_option linter.unusedVariables false
set_option linter.unusedSimpArgs false
/-! trees that lose their values -/
namespace Go.V
def zrG (g : Pg) : Pg := ⟨g.ks, g.cs, List.replicate g.vs.length 0⟩
def zrT (t : Pt) : Pt := ⟨t.r, t.ps.map zrG⟩
section q
variable {P : Program} {sf : SM} {r : RT} {L : List (Nat × D)} {S : Store} {K : Env → Store → Prop} {t : Nat}
end q
abbrev zrD (o k : Nat) (ps : List Pg) (g : Pg) : List D := dG ps ++ [.agg [.pv (ints g.ks), .pv (ints g.cs), .own o k]]
end Go.V
