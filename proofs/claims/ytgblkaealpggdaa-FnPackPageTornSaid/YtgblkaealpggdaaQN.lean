/- A part of the proofs about laws of the page tree (see the text that bears the law): a small language of steps, its rules, and what the functions of the program return. -/
import Derived.Test.YtgblkaealpggdaaQM
set_option linter.all false
set_option linter.unusedVariables false
set_option linter.unusedSimpArgs false
/-! pages that can be packed -/
namespace Go.V
def fitsG (g : Pg) : Bool := goodKeys g.ks && decide (g.ks.length ≤ 4) && (if g.cs.length = 0 then decide (g.vs.length = g.ks.length) && g.vs.all (fun k => decide (-1000 ≤ k) && decide (k ≤ 1000)) else decide (g.vs.length = 0) && goodInner g.ks g.cs)
def anyG (g : Pg) : Prop := g.ks.length ≤ 100 ∧ g.cs.length ≤ 100 ∧ g.vs.length ≤ 100
theorem fits_bad {g : Pg} (h : goodKeys g.ks = false ∨ 4 < g.ks.length) : fitsG g = false := by
  unfold fitsG
  rcases h with h | h
  · rw [h]; rfl
  · rw [decide_eq_false (show ¬ g.ks.length ≤ 4 by omega)]; simp
theorem fits_leaf {g : Pg} (h : g.cs.length = 0) (h1 : goodKeys g.ks = true) (h2 : g.ks.length ≤ 4) : fitsG g = (decide (g.vs.length = g.ks.length) && g.vs.all (fun k => decide (-1000 ≤ k) && decide (k ≤ 1000))) := by
  unfold fitsG
  rw [h1, decide_eq_true h2, if_pos h]; rfl
theorem fits_inner {g : Pg} (h : g.cs.length ≠ 0) (h1 : goodKeys g.ks = true) (h2 : g.ks.length ≤ 4) : fitsG g = (decide (g.vs.length = 0) && goodInner g.ks g.cs) := by
  unfold fitsG
  rw [h1, decide_eq_true h2, if_neg h]; rfl
theorem mem_at {xs : List Int} {k : Int} (h : k ∈ xs) : ∃ j, j < xs.length ∧ nth xs j = k := by
  obtain ⟨j, hj, rfl⟩ := List.getElem_of_mem h
  exact ⟨j, hj, nth_eq hj⟩
theorem fits_good {g : Pg} (h : fitsG g = true) (hc : g.cs.length ≠ 0) : goodInner g.ks g.cs = true := by
  have hg : goodKeys g.ks = true := by
    cases e : goodKeys g.ks
    · rw [fits_bad (.inl e)] at h; cases h
    · rfl
  have h4 : g.ks.length ≤ 4 := by
    by_cases e : g.ks.length ≤ 4
    · exact e
    · rw [fits_bad (.inr (by omega))] at h; cases h
  rw [fits_inner hc hg h4] at h
  simp only [Bool.and_eq_true] at h
  exact h.2
theorem fits_four {g : Pg} (h : fitsG g = true) : g.ks.length ≤ 4 := by
  by_cases e : g.ks.length ≤ 4
  · exact e
  · rw [fits_bad (.inr (by omega))] at h; cases h
theorem fits_vs {g : Pg} (h : fitsG g = true) (hc : g.cs.length = 0) : g.vs.length = g.ks.length := by
  have hg : goodKeys g.ks = true := by
    cases e : goodKeys g.ks
    · rw [fits_bad (.inl e)] at h; cases h
    · rfl
  rw [fits_leaf hc hg (fits_four h)] at h
  simp only [Bool.and_eq_true, decide_eq_true_eq] at h
  exact h.1
end Go.V
