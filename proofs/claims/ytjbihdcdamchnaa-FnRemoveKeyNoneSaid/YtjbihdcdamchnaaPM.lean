/- A part of the proofs about laws of the page tree (see the text that bears the law): a small language of steps, its rules, and what the functions of the program return. -/
import Derived.Test.YtjbihdcdamchnaaVR
set_option linter.all false
set_option linter.unusedVariables false
set_option linter.unusedSimpArgs false
namespace Go.V
theorem upTo_nth {ks : List Int} (h : goodKeys ks = true) {i : Nat} (hi : i < ks.length) : upTo ks (nth ks i) = i + 1 := by
  have hr := good_rising h
  refine upTo_eq (by omega) (fun j hj => rising_le hr (by omega) hi) (fun h => ?_)
  exact rising_iff.1 hr i h
theorem upTo_pred {ks : List Int} (h : goodKeys ks = true) {i : Nat} (hi : i < ks.length) : upTo ks (nth ks i - 1) = i := by
  have hr := good_rising h
  refine upTo_eq (by omega) (fun j hj => ?_) (fun h => by omega)
  have h1 := rising_iff.1 hr j (by omega)
  have h2 := rising_le hr (show j + 1 ≤ i by omega) hi
  omega
theorem nth_in {xs : List Int} {i : Nat} (h : i < xs.length) : xs.contains (nth xs i) = true := has_true i h rfl
theorem nat_i1 (i : Nat) : ((i : Int) + 1).toNat = i + 1 := by omega
theorem upTo_step {ks : List Int} (h : goodKeys ks = true) (k : Int) : (upTo ks (k + 1) = upTo ks k + 1 ∧ ks.contains (k + 1) = true) ∨ (upTo ks (k + 1) = upTo ks k ∧ ks.contains (k + 1) = false) := by
  have hr := good_rising h
  have h1 := upTo_le ks k
  by_cases he : upTo ks k < ks.length ∧ nth ks (upTo ks k) = k + 1
  · left
    have h2 := upTo_nth h he.1
    rw [he.2] at h2
    exact ⟨h2, has_true _ he.1 he.2⟩
  · right
    have h3 : ∀ j, upTo ks k ≤ j → j < ks.length → k + 1 < nth ks j := fun j hj hl => by
      have h4 := upTo_at (xs := ks) (k := k) (by omega)
      have h5 := rising_le hr hj hl
      have : nth ks (upTo ks k) ≠ k + 1 := fun e => he ⟨by omega, e⟩
      omega
    refine ⟨upTo_eq h1 (fun j hj => by have := upTo_lt hj; omega) (fun hl => h3 _ (Nat.le_refl _) hl), has_false fun j hj e => ?_⟩
    rcases Nat.lt_or_ge j (upTo ks k) with hlt | hge
    · have := upTo_lt hlt; omega
    · have := h3 j hge hj; omega
theorem nodup_ne {xs : List Int} (h : nodupI xs = true) {i j : Nat} (hi : i < j) (hj : j < xs.length) : nth xs j ≠ nth xs i := by
  unfold nodupI at h
  rw [List.all_eq_true] at h
  have h1 := h j (by simpa using hj)
  intro e
  have : (xs.take j).contains (nth xs j) = true := by
    refine has_true (xs := xs.take j) i (by simp; omega) ?_
    rw [e, nth_eq (by simp; omega), nth_eq (by omega)]
    simp
  rw [this] at h1
  cases h1
theorem nodup_eq {xs : List Int} (h : nodupI xs = true) {i j : Nat} (hi : i < xs.length) (hj : j < xs.length) (e : nth xs i = nth xs j) : i = j := by
  rcases Nat.lt_trichotomy i j with h1 | h1 | h1
  · exact absurd e.symm (nodup_ne h h1 hj)
  · exact h1
  · exact absurd e (nodup_ne h h1 hi)
theorem goodInner_nodup {ks cs : List Int} (h : goodInner ks cs = true) : nodupI cs = true := by
  simp only [goodInner, Bool.and_eq_true] at h; exact h.1
end Go.V
