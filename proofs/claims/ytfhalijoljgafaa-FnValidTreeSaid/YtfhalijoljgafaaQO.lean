/- A part of the proofs about laws of the page tree (see the text that bears the law): a small language of steps, its rules, and what the functions of the program return. -/
import Derived.Test.YtfhalijoljgafaaQN
set_option linter.all false
set_option linter.unusedVariables false
set_option linter.unusedSimpArgs false
/-! packed pages -/
namespace Go.V
def ckL (xs : List Int) : Int := xs.foldl (fun s x => (41 * s + x) % 2003) 23
def pkN (g : Pg) : Int := 2 * (g.ks.length : Int) + (if 0 < g.cs.length then 1 else 0)
def pkB (g : Pg) : List Int := [pkN g] ++ g.ks ++ g.cs
def pkM (g : Pg) : List Int := pkB g ++ g.vs.map fun v => v + 1000
def pkL (g : Pg) : List Int := pkM g ++ [ckL (pkM g)]
def pkV (g : Pg) : List Int := if fitsG g then pkL g else []
def smI (xs : List Int) : Prop := ∀ k ∈ xs, 0 ≤ k ∧ k ≤ 1000000
theorem smI.at {xs : List Int} (h : smI xs) {i : Nat} (hi : i < xs.length) : 0 ≤ nth xs i ∧ nth xs i ≤ 1000000 := h _ (nth_mem hi)
end Go.V
