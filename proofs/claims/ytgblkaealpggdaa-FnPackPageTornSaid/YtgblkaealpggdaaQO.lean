/- A part of the proofs about laws of the page tree (see the text that bears the law): a small language of steps, its rules, and what the functions of the program return. -/
import Derived.Test.YtgblkaealpggdaaQN
set_option linter.all false
set_option linter.unusedVariables false
set_option linter.unusedSimpArgs false
/-! packed pages -/
namespace Go.V
def ckL (xs : List Int) : Int := xs.foldl (fun s x => (41 * s + x) % 2003) 23
theorem ckL_snoc (xs : List Int) (x : Int) : ckL (xs ++ [x]) = (41 * ckL xs + x) % 2003 := by simp [ckL]
theorem ckL_rg (xs : List Int) : 0 ≤ ckL xs ∧ ckL xs < 2003 := by
  suffices h : ∀ (xs : List Int) (s : Int), 0 ≤ s ∧ s < 2003 → 0 ≤ xs.foldl (fun s x => (41 * s + x) % 2003) s ∧ xs.foldl (fun s x => (41 * s + x) % 2003) s < 2003 from h xs 23 (by omega)
  intro xs
  induction xs with
  | nil => intro s h; exact h
  | cons x r ih => intro s _; exact ih _ ⟨Int.emod_nonneg _ (by omega), Int.emod_lt_of_pos _ (by omega)⟩
def pkN (g : Pg) : Int := 2 * (g.ks.length : Int) + (if 0 < g.cs.length then 1 else 0)
def pkB (g : Pg) : List Int := [pkN g] ++ g.ks ++ g.cs
def pkM (g : Pg) : List Int := pkB g ++ g.vs.map fun v => v + 1000
def pkL (g : Pg) : List Int := pkM g ++ [ckL (pkM g)]
def pkV (g : Pg) : List Int := if fitsG g then pkL g else []
def smI (xs : List Int) : Prop := ∀ k ∈ xs, 0 ≤ k ∧ k ≤ 1000000
theorem smI.at {xs : List Int} (h : smI xs) {i : Nat} (hi : i < xs.length) : 0 ≤ nth xs i ∧ nth xs i ≤ 1000000 := h _ (nth_mem hi)
theorem fits_keys {g : Pg} (h : fitsG g = true) : goodKeys g.ks = true := by
  cases e : goodKeys g.ks
  · rw [fits_bad (.inl e)] at h; cases h
  · rfl
theorem fits_kids {g : Pg} (h : fitsG g = true) : g.cs.length ≤ 5 ∧ ∀ k ∈ g.cs, 0 ≤ k ∧ k ≤ 15 := by
  by_cases hc : g.cs.length = 0
  · have e : g.cs = [] := List.length_eq_zero_iff.1 hc
    rw [e]; simp
  · have hg := fits_good h hc
    have h4 := fits_four h
    have h5 := goodInner_len hg
    refine ⟨by omega, fun k hk => ?_⟩
    simp only [goodInner, Bool.and_eq_true, List.all_eq_true, decide_eq_true_eq] at hg
    exact hg.2.2 k hk
theorem fits_vals {g : Pg} (h : fitsG g = true) : g.vs.length ≤ 4 ∧ ∀ k ∈ g.vs, -1000 ≤ k ∧ k ≤ 1000 := by
  have h4 := fits_four h
  by_cases hc : g.cs.length = 0
  · rw [fits_leaf hc (fits_keys h) h4] at h
    simp only [Bool.and_eq_true, decide_eq_true_eq, List.all_eq_true] at h
    exact ⟨by omega, h.2⟩
  · rw [fits_inner hc (fits_keys h) h4] at h
    simp only [Bool.and_eq_true, decide_eq_true_eq] at h
    have e : g.vs = [] := List.length_eq_zero_iff.1 h.1
    rw [e]; simp
theorem fits_sm {g : Pg} (h : fitsG g = true) : smI (pkM g) := fun k hk => by
  have h4 := fits_four h
  have hk' := fits_keys h
  simp only [goodKeys, Bool.and_eq_true, List.all_eq_true, decide_eq_true_eq] at hk'
  have hN : 0 ≤ pkN g ∧ pkN g ≤ 9 := by unfold pkN; split <;> omega
  simp only [pkM, pkB, List.mem_append, List.mem_map, List.mem_singleton] at hk
  rcases hk with ((rfl | hk) | hk) | ⟨v, hv, rfl⟩
  · omega
  · have := hk'.2 k hk; omega
  · have := (fits_kids h).2 k hk; omega
  · have := (fits_vals h).2 v hv; omega
theorem pkM_len (g : Pg) : (pkM g).length = 1 + g.ks.length + g.cs.length + g.vs.length := by simp [pkM, pkB]; omega
theorem pk_len {g : Pg} (h : fitsG g = true) : ((pkL g).length : Int) = 2 * (g.ks.length : Int) + 2 + (if 0 < g.cs.length then 1 else 0) := by
  have h4 := fits_four h
  simp only [pkL, List.length_append, pkM_len, List.length_singleton]
  by_cases hc : g.cs.length = 0
  · have := fits_vs h hc
    rw [if_neg (by omega)]; omega
  · have hg := goodInner_len (fits_good h hc)
    have hv : g.vs.length = 0 := by
      rw [fits_inner hc (fits_keys h) h4] at h
      simp only [Bool.and_eq_true, decide_eq_true_eq] at h
      exact h.1
    rw [if_pos (by omega)]; omega
theorem pk_last (g : Pg) : nth (pkL g) ((pkL g).length - 1) = ckL (pkM g) := by
  simp only [pkL, List.length_append, List.length_singleton, Nat.add_sub_cancel]
  rw [nth_eq (by simp)]; simp
theorem pkV_snoc (g : Pg) {i : Nat} (hi : i < g.vs.length) : pkB g ++ (g.vs.take (i + 1)).map (fun v => v + 1000) = (pkB g ++ (g.vs.take i).map (fun v => v + 1000)) ++ [nth g.vs i + 1000] := by
  rw [take_succ_nth hi]; simp
end Go.V
