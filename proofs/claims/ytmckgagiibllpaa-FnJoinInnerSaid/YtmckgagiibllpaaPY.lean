/- A part of the proofs about laws of the page tree (see the text that bears the law): a small language of steps, its rules, and what the functions of the program return. -/
import Derived.Test.YtmckgagiibllpaaPX
set_option linter.all false
set_option linter.unusedVariables false
set_option linter.unusedSimpArgs false
namespace Go.V
section q
variable {P : Program} {sf : SM} {r : RT} {L : List (Nat × D)} {S : Store} {K : Env → Store → Prop} {t : Nat}
theorem q_build2 {z0 z1 : D} {x y : Opd} {d e : D} (hx : ev (env L) x = d) (hd : cellsD d = some [d]) (hy : ev (env L) y = e) (he : cellsD e = some [e]) (h : RG P sf r (env ((t, .agg [d, e]) :: L)) S K) :
    RG P sf (.op ⟨some t, none, .build [z0, z1] [(0, (1, x)), (1, (1, y))]⟩ r) (env L) S K := by
  refine q_build ?_ h
  subst hx hy
  simp only [fillD, hd, he]
  simp [setAt]
end q
end Go.V
