/- A part of the proofs about laws of the page tree (see the text that bears the law): a small language of steps, its rules, and what the functions of the program return. -/
import Derived.Test.YtgblkaealpggdaaWKbg
import Derived.Test.YtgblkaealpggdaaQF
set_option linter.all false
set_option linter.unusedVariables false
set_option linter.unusedSimpArgs false
set_option maxHeartbeats 4000000
namespace Go.V
open Go.Proofs.Try (prog)
abbrev xI (t : Pt) (up f : Nat) : Pg := (⟨(mKs t up f).take (halfI (mKs t up f)), (mCs t up f).take ((halfI (mKs t up f)) + 1), []⟩ : Pg)
abbrev xJ (t : Pt) (up f : Nat) : Pg := (⟨(mKs t up f).drop ((halfI (mKs t up f)) + 1), (mCs t up f).drop ((halfI (mKs t up f)) + 1), []⟩ : Pg)
abbrev xM (t : Pt) (up f : Nat) : List Pg := (t.ps.set (nth (nth t.ps up).cs f).toNat (leafG ((mRow t up f).take (halfM t up f)))).set (nth (nth t.ps up).cs (f + 1)).toNat (leafG ((mRow t up f).drop (halfM t up f)))
abbrev xL (t : Pt) (up f : Nat) : List Pg := t.ps.set (nth (nth t.ps up).cs f).toNat (leafG ((mRow t up f).take (halfM t up f)))
abbrev xQ (t : Pt) (up f : Nat) : List Pg := (t.ps.set (nth (nth t.ps up).cs f).toNat (xI t up f)).set (nth (nth t.ps up).cs (f + 1)).toNat (xJ t up f)
abbrev xP (t : Pt) (up f : Nat) : List Pg := t.ps.set (nth (nth t.ps up).cs f).toNat (xI t up f)
set_option maxRecDepth 100000
end Go.V
