/- A part of the proofs about laws of the page tree (see the text that bears the law): a small language of steps, its rules, and what the functions of the program return. -/
import Derived.Test.YtgblkaealpggdaaLH
set_option linter.all false
set_option linter.unusedVariables false
set_option linter.unusedSimpArgs false
namespace Go.V
/-! trees put and dropped: steps -/
section q
variable {P : Program} {sf : SM} {r : RT} {L : List (Nat × D)} {S : Store} {K : Env → Store → Prop} {t : Nat}
end q
end Go.V
namespace Go.V
theorem GP.leaf {g : Pg} (h : GP g) (hc : g.cs.length = 0) : goodR (rowG g) = true ∧ g.vs.length = g.ks.length ∧ g.ks.length ≤ 5 := by
  rcases h.2 with h2 | h2
  · exact ⟨h2.2.1, h2.2.2, h.1⟩
  · omega
theorem GP.inner {g : Pg} (h : GP g) (hc : g.cs.length ≠ 0) : g.cs.length = g.ks.length + 1 ∧ 1 ≤ g.ks.length ∧ g.ks.length ≤ 5 := by
  rcases h.2 with h2 | h2
  · omega
  · exact ⟨h2.1, h2.2, h.1⟩
end Go.V
namespace Go.V
abbrev putI (pt : List Int) (n : Nat) : Nat := (nth pt (n - 1)).toNat
abbrev putU (pt : List Int) (n : Nat) (qs : List Pg) : Pg := nth (put1 qs (putI pt n)) (putI pt (n - 1))
abbrev putN (pt : List Int) (n : Nat) (qs : List Pg) : List Pg := (put1 qs (putI pt n)).set (putI pt (n - 1)) (addG (putU pt n qs) (plc (putU pt n qs).cs (nth pt (n - 1))) (splP (nth qs (putI pt n))).2.1 ((qs.length : Nat) : Int))
end Go.V
namespace Go.V
def okPutT (t : Pt) (x : Int × Int) : Bool := validT t && goodX x && validT (putM t x)
end Go.V
namespace Go.V
theorem toR_G {n o ty sz : Nat} {S : Store} {ps : List Pg} (hS : S[o]? = some (obD ty sz (dG ps))) : toR (n + 2) S (ownD o (dG ps)) = some (pgsP ps) :=
  toR_own (n := n + 1) hS (toR_m (f := pgP) (fun _ => rfl) ps)
end Go.V
