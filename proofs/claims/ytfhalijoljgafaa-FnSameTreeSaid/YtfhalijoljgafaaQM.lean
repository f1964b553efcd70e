/- A part of the proofs about laws of the page tree (see the text that bears the law): a small language of steps, its rules, and what the functions of the program return. -/
import Derived.Test.YtfhalijoljgafaaQL
set_option linter.all false
set_option linter.unusedVariables false
set_option linter.unusedSimpArgs false
namespace Go.V
/-! sums over the pages of a tree -/
def sumR (f : Nat → Nat) (n : Nat) : Nat := ((List.range n).map f).sum
/-! kids -/
def kidsTo (t : Pt) (i : Nat) : List Int := (t.ps.take i).flatMap fun p => p.cs
end Go.V
namespace Go.V
end Go.V
namespace Go.V
theorem load_any {xs : List (Int × Int)} (hx : xs.length ≤ 24) : AnyT (loadT xs) := by
  have hl := lvsP_len (xs := xs)
  have hn := nlv_le hx
  have hlv : ∀ p ∈ lvsP xs, p.ks.length ≤ 100 ∧ p.cs.length ≤ 100 ∧ p.vs.length ≤ 100 := fun p hp => by
    obtain ⟨i, hi, rfl⟩ := List.mem_map.1 hp
    have h1 := cutP_len (xs := xs) (List.mem_range.1 hi)
    have h2 := cut_le (m := xs.length) (n := nlv xs.length) (i := i + 1) (by have := List.mem_range.1 hi; omega) hn.1
    simp only [leafG, List.length_map, List.length_nil]
    omega
  refine ⟨(loadP_len hx).2, fun i hi => ?_⟩
  have hm : nth (loadP xs) i ∈ loadP xs := nth_mem hi
  show (nth (loadP xs) i).ks.length ≤ 100 ∧ (nth (loadP xs) i).cs.length ≤ 100 ∧ (nth (loadP xs) i).vs.length ≤ 100
  generalize nth (loadP xs) i = p at hm
  unfold loadP at hm
  split at hm
  · exact hlv p hm
  · split at hm
    · rcases List.mem_cons.1 hm with rfl | hm
      · simp [natI_len]; omega
      · exact hlv p hm
    · simp only [List.mem_append, List.mem_cons, List.not_mem_nil, or_false] at hm
      rcases hm with (((rfl | rfl) | hm) | rfl) | hm
      · simp
      · simp [natI_len]; omega
      · exact hlv p (List.mem_of_mem_take hm)
      · simp [natI_len]; omega
      · exact hlv p (List.mem_of_mem_drop hm)
end Go.V
