/- A part of the proofs about laws of the page tree (see the text that bears the law): a small language of steps, its rules, and what the functions of the program return. -/
import Derived.Test.YtgblkaealpggdaaQI
set_option linter.all false
set_option linter.unusedVariables false
set_option linter.unusedSimpArgs false
namespace Go.V
/-! steps of a drop -/
def NewTp (P : Program) (f : FuncId) (pty : Nat) (args : List PV) (t : Pt) (x : Int) : Prop :=
  CallS P f (args.map .pv) [] (fun d S => ∃ T, d = .tup [treeD 0 t, .pv (i64 x)] ∧ S = obD pty 3 (dG t.ps) :: T)
theorem tup_own {o k : Nat} {m : D → D} {t : Pt} {p : PV} (hp : mpS m (.pv p) = .pv p) (h : mp1 m (ownD o (dG t.ps)) = ownD k (dG t.ps)) : mpD m (.tup [treeD o t, .pv p]) = .tup [treeD k t, .pv p] := by
  show D.tup [D.agg [.pv (i64 t.r), mp1 m (ownD o (dG t.ps))], mpS m (.pv p)] = _
  rw [h, hp]
section q
variable {P : Program} {sf : SM} {r : RT} {L : List (Nat × D)} {S : Store} {K : Env → Store → Prop} {t : Nat}
end q
end Go.V
namespace Go.V
end Go.V
